/- Contracts: arenas (layer 4): Put as the document has it. -/
import Derived.Test.YtdeichdplcafcaaC04h
set_option linter.unusedSimpArgs false
set_option linter.unusedVariables false
namespace Pi
def putV (l : List N) (k : L) : V :=
  if rightN l = true ∧ RightS k 5 10 = true then
    (if (putN k l).1.length ≤ 1000 then .tu [.ag [sV cN (putN k l).1], .i .i64 (putN k l).2, .i .i64 0] else .tu [.ag [sV cN l], .i .i64 0, .i .i64 2])
  else .tu [.ag [sV cN l], .i .i64 0, .i .i64 1]
theorem RightS_d {k : L} (h : RightS k 5 10 = true) : rightS k 5 10 (12 : Nat) = true := by
  unfold RightS at h
  split at h
  · cases h
  · simp only [Bool.and_eq_true] at h
    exact h.2
theorem own_q (l : List N) (hl : l.length ≤ 1000000) {m : Sto} {x : Nat} {K : QR → Prop}
    (hK : ∀ B ws ids m2 x', m.app ws = m2 → x ≤ x' → Eg m2 B cN 4 l x x' → (∀ j, j < x → m2 j = m j) → (∀ l ∈ ids, x ≤ l ∧ l < x') → ws.map Prod.fst = ids → K ⟨.ag [B], ws, ids, x'⟩) :
    wpQuiet ctx (.fn (.func ref04_own.n) [] []) [.ag [sV cN l]] m x K := by
  refine openq_w rfl rfl rfl rfl (a := [.ag [sV cN l]]) (by simp [freezeL]) ?_
  refine ref04_own.w l hl rfl ?_
  intro B m' x' h1 h2 h3 h4
  obtain ⟨i1, i2⟩ := h4 (fun j => decide (x ≤ j)) (fun j hj => by simpa using hj) (fun j _ => rfl)
  refine ⟨by rw [over_inn]; simp [V.inn, innL, i2], fun j q1 q2 => by rw [ownO_inn]; exact i1 j (by simpa using q1), fun ws ids w1 w2 w3 => ?_⟩
  have hxx : x + (x' - x) = x' := by omega
  rw [hxx]
  refine hK B ws ids _ x' rfl h1 ?_ (fun j hj => ?_) w1 w2
  · rcases h3 with h | ⟨b, rfl, z1, z2, z3⟩
    · exact .inl h
    · exact .inr ⟨b, rfl, by rw [w3 m, if_pos ⟨z2, z3⟩, z1], z2, z3⟩
  · rw [w3 m, if_neg (by omega)]
set_option maxRecDepth 20000 in
set_option maxHeartbeats 4000000 in
theorem ref04_Put.a (l : List N) (hl : l.length ≤ 1000000) (k : L) (ok : k.Ok) : Ans ctx ref04_Put.n [.ag [sV cN l], .ag (cL k)] (putV l k) := by
  obtain ⟨vs, hvs⟩ : ∃ vs, vs = [V.ag [sV cN l], .ag (cL k)] := ⟨_, rfl⟩
  rw [← hvs]
  refine ans ref04_Put.f ?_
  have hR := ref04_Right.a l hl
  have hL := ref02_Right.a k ok 5 10
  have hfo : ctx.frz ref04_own.n = false := rfl
  unfold putV
  cases hr : rightN l with
  | false =>
    rw [hr] at hR
    simp +contextual (disch := omega) [Nat.add_assoc, Int.add_assoc, if_pos, if_neg, -Int.not_lt, -Int.not_le, -Nat.not_lt, -Nat.not_le, -List.length_flatMap, ref04_Put.c, hvs, ansK hR]
    rw [CallX_op (by rfl)]
    refine openg_w ref04_own.f rfl (.inl rfl) ?_
    rw [hfo]
    refine ref04_own.w l hl rfl ?_
    intro B m' x' h1 h2 h3 h4
    have hz := fun M' h => (h3.up (m' := M') (Nat.le_refl _) (Nat.le_refl _) h).bf.fz24
    have q2 : m' 2 = some (.cells [.ns] false) := by rw [h2 2 (by omega)]; simp +contextual (disch := omega) [Nat.add_assoc, Int.add_assoc, if_pos, if_neg, -Int.not_lt, -Int.not_le, -Nat.not_lt, -Nat.not_le, -List.length_flatMap]
    have hst := h3.stor
    simp +contextual (disch := omega) [Nat.add_assoc, Int.add_assoc, if_pos, if_neg, -Int.not_lt, -Int.not_le, -Nat.not_lt, -Nat.not_le, -List.length_flatMap, q2, hst.1, hst.2.1]
    rw [hz _ (fun j g1 g2 => by simp +contextual (disch := omega) [Nat.add_assoc, Int.add_assoc, if_pos, if_neg, -Int.not_lt, -Int.not_le, -Nat.not_lt, -Nat.not_le, -List.length_flatMap])]
    simp +contextual (disch := omega) [Nat.add_assoc, Int.add_assoc, if_pos, if_neg, -Int.not_lt, -Int.not_le, -Nat.not_lt, -Nat.not_le, -List.length_flatMap]
  | true =>
    rw [hr] at hR
    cases hk : RightS k 5 10 with
    | false =>
      rw [hk] at hL
      simp +contextual (disch := omega) [Nat.add_assoc, Int.add_assoc, if_pos, if_neg, -Int.not_lt, -Int.not_le, -Nat.not_lt, -Nat.not_le, -List.length_flatMap, ref04_Put.c, hvs, ansK hR, ansK hL]
      rw [CallX_op (by rfl)]
      refine openg_w ref04_own.f rfl (.inl rfl) ?_
      rw [hfo]
      refine ref04_own.w l hl rfl ?_
      intro B m' x' h1 h2 h3 h4
      have hz := fun M' h => (h3.up (m' := M') (Nat.le_refl _) (Nat.le_refl _) h).bf.fz24
      have q2 : m' 2 = some (.cells [.ns] false) := by rw [h2 2 (by omega)]; simp +contextual (disch := omega) [Nat.add_assoc, Int.add_assoc, if_pos, if_neg, -Int.not_lt, -Int.not_le, -Nat.not_lt, -Nat.not_le, -List.length_flatMap]
      have hst := h3.stor
      simp +contextual (disch := omega) [Nat.add_assoc, Int.add_assoc, if_pos, if_neg, -Int.not_lt, -Int.not_le, -Nat.not_lt, -Nat.not_le, -List.length_flatMap, q2, hst.1, hst.2.1]
      rw [hz _ (fun j g1 g2 => by simp +contextual (disch := omega) [Nat.add_assoc, Int.add_assoc, if_pos, if_neg, -Int.not_lt, -Int.not_le, -Nat.not_lt, -Nat.not_le, -List.length_flatMap])]
      simp +contextual (disch := omega) [Nat.add_assoc, Int.add_assoc, if_pos, if_neg, -Int.not_lt, -Int.not_le, -Nat.not_lt, -Nat.not_le, -List.length_flatMap]
    | true =>
      rw [hk] at hL
      simp +contextual (disch := omega) [Nat.add_assoc, Int.add_assoc, if_pos, if_neg, -Int.not_lt, -Int.not_le, -Nat.not_lt, -Nat.not_le, -List.length_flatMap, ref04_Put.c, hvs, ansK hR, ansK hL]
      rw [CallQ_op (by rfl)]
      refine own_q l hl ?_
      intro B ws ids m2 x' h1 h2 h3 h4 h5 h6
      have m0 : m2 0 = some (.cells [sV cN l] false) := by rw [h4 0 (by omega)]; simp +contextual (disch := omega) [Nat.add_assoc, Int.add_assoc, if_pos, if_neg, -Int.not_lt, -Int.not_le, -Nat.not_lt, -Nat.not_le, -List.length_flatMap]
      have m1 : m2 1 = some (.cells (cL k) false) := by rw [h4 1 (by omega)]; simp +contextual (disch := omega) [Nat.add_assoc, Int.add_assoc, if_pos, if_neg, -Int.not_lt, -Int.not_le, -Nat.not_lt, -Nat.not_le, -List.length_flatMap]
      have m2' : m2 2 = some (.cells [.ns] false) := by rw [h4 2 (by omega)]; simp +contextual (disch := omega) [Nat.add_assoc, Int.add_assoc, if_pos, if_neg, -Int.not_lt, -Int.not_le, -Nat.not_lt, -Nat.not_le, -List.length_flatMap]
      simp +contextual (disch := omega) [Nat.add_assoc, Int.add_assoc, if_pos, if_neg, -Int.not_lt, -Int.not_le, -Nat.not_lt, -Nat.not_le, -List.length_flatMap, h1, m1]
      rw [CallQ_op (by rfl)]
      refine put_q (ref04_put.w k 5 10 12 (by omega) (RightS_d hk)) (by have := (right_len hr).1; omega) (h3.up (Nat.zero_le _) (by omega) (fun j g1 g2 => rfl)) ?_
      intro B' ws' ids' m3 x3 k1 k2 k3 k4 k5 k6 k7 k8
      simp +contextual (disch := omega) [Nat.add_assoc, Int.add_assoc, if_pos, if_neg, -Int.not_lt, -Int.not_le, -Nat.not_lt, -Nat.not_le, -List.length_flatMap, k1]
      have e1 : ∀ a (b : Option PObj), (a, b) ∈ ws → a ∈ ids := fun a b h => h6 ▸ List.mem_map.2 ⟨(a, b), h, rfl⟩
      have e2 : ∀ a (b : Option PObj), (a, b) ∈ ws' → a ∈ ids' := fun a b h => k7 ▸ List.mem_map.2 ⟨(a, b), h, rfl⟩
      have f2 : ∀ a, a ∈ ids' → a < x3 + 3 := fun a h => by
        rcases k6 a h with h | h
        · have := h3.ref h; omega
        · omega
      rw [IfK_pos ⟨fun a b h => by have := h5 a (e1 a b h); omega, ⟨fun a b h => by have := h5 a (e1 a b h); omega, fun h => by have := h5 _ h; omega⟩, fun a b h => by have := f2 a (e2 a b h); omega, fun h => by have := f2 _ h; omega⟩]
      have hst := k3.stor
      have hB1 : ∀ j, j ∈ refOf B → 3 ≤ j := fun j h => by have := h3.ref h; omega
      have hB2 : ∀ j, j ∈ refOf B' → 3 ≤ j ∧ j < x3 := fun j h => by
        have h7 := k3.ref h
        rcases k4 j h with h | h
        · have := hB1 j h; omega
        · omega
      have n0 : m3 0 = some (.cells [sV cN l] false) := by rw [k5 0 (by omega) (fun h => by have := hB1 _ h; omega)]; simp +contextual (disch := omega) [Nat.add_assoc, Int.add_assoc, if_pos, if_neg, -Int.not_lt, -Int.not_le, -Nat.not_lt, -Nat.not_le, -List.length_flatMap, m0]
      have n2 : m3 2 = some (.cells [.ns] false) := by rw [k5 2 (by omega) (fun h => by have := hB1 _ h; omega)]; simp +contextual (disch := omega) [Nat.add_assoc, Int.add_assoc, if_pos, if_neg, -Int.not_lt, -Int.not_le, -Nat.not_lt, -Nat.not_le, -List.length_flatMap, m2']
      by_cases hle : (putN k l).1.length ≤ 1000
      · simp +contextual (disch := omega) [Nat.add_assoc, Int.add_assoc, if_pos, if_neg, -Int.not_lt, -Int.not_le, -Nat.not_lt, -Nat.not_le, -List.length_flatMap, hst.1, hst.2.1, hst.2.2, hle, n0, n2]
        have hz := fun M' h => (k3.mv (m' := M') (Nat.le_refl _) h).bf.fz24
        rw [hz _ (fun j g1 => by have := hB2 j g1; simp +contextual (disch := omega) [Nat.add_assoc, Int.add_assoc, if_pos, if_neg, -Int.not_lt, -Int.not_le, -Nat.not_lt, -Nat.not_le, -List.length_flatMap])]
        simp +contextual (disch := omega) [Nat.add_assoc, Int.add_assoc, if_pos, if_neg, -Int.not_lt, -Int.not_le, -Nat.not_lt, -Nat.not_le, -List.length_flatMap]
      · simp +contextual (disch := omega) [Nat.add_assoc, Int.add_assoc, if_pos, if_neg, -Int.not_lt, -Int.not_le, -Nat.not_lt, -Nat.not_le, -List.length_flatMap, hst.1, hst.2.1, hst.2.2, hle, n0, n2]
        rw [CallX_op (by rfl)]
        refine openg_w ref04_own.f rfl (.inl rfl) ?_
        rw [hfo]
        refine ref04_own.w l hl rfl ?_
        intro B4 m4 x4 g1 g2 g3 g4
        have hz := fun M' h => (g3.up (m' := M') (Nat.le_refl _) (Nat.le_refl _) h).bf.fz24
        have q2 : m4 2 = some (.cells [.ns] false) := by rw [g2 2 (by omega)]; simp +contextual (disch := omega) [Nat.add_assoc, Int.add_assoc, if_pos, if_neg, -Int.not_lt, -Int.not_le, -Nat.not_lt, -Nat.not_le, -List.length_flatMap, n2]
        have hst4 := g3.stor
        simp +contextual (disch := omega) [Nat.add_assoc, Int.add_assoc, if_pos, if_neg, -Int.not_lt, -Int.not_le, -Nat.not_lt, -Nat.not_le, -List.length_flatMap, q2, hst4.1, hst4.2.1]
        rw [hz _ (fun j g1 g2 => by simp +contextual (disch := omega) [Nat.add_assoc, Int.add_assoc, if_pos, if_neg, -Int.not_lt, -Int.not_le, -Nat.not_lt, -Nat.not_le, -List.length_flatMap])]
        simp +contextual (disch := omega) [Nat.add_assoc, Int.add_assoc, if_pos, if_neg, -Int.not_lt, -Int.not_le, -Nat.not_lt, -Nat.not_le, -List.length_flatMap]
end Pi
