/- Contracts: arenas (layer 4): Put. -/
import Derived.Test.YtdeichdplcafcaaC04j
set_option linter.unusedSimpArgs false
set_option linter.unusedVariables false
namespace Pi
theorem Eg.new {α : Type} {f : α → List V} {k : Nat} {m' : Sto} {l : List α} {lo X X' : Nat} {K : V → Ws → Prop} (hlo : lo ≤ X) (hX : X < X')
    (hK : ∀ B ws m2, m'.app ws = m2 → Eg m2 B f k l lo X' → (∀ j, j ≠ X → m2 j = m' j) → (∀ j, j ∈ refOf B → j = X) → (∀ p, p ∈ ws → p.1 = X) → K B ws) :
    opK (if l = [] then some (V.ns, []) else some (V.ms X 0 l.length k, [(X, some (.cells (l.flatMap f) false))])) K := by
  by_cases h : l = []
  · rw [if_pos h]
    subst h
    exact hK .ns [] m' rfl Eg.nil (fun _ _ => rfl) (fun j hj => by simp [refOf] at hj) (fun p hp => by simp at hp)
  · rw [if_neg h]
    refine hK _ _ _ rfl (.inr ⟨X, rfl, ?_, hlo, hX⟩) (fun j hj => ?_) (fun j hj => by simpa [refOf] using hj) (fun p hp => by simp at hp; rw [hp])
    · rw [sapp_cons, sapp_nil, Sto.seq]
    · rw [sapp_cons, sapp_nil, Sto.sne _ _ _ _ hj]
set_option maxRecDepth 20000 in
set_option maxHeartbeats 4000000 in
theorem arena_Put.a (l : List N) (hl : l.length ≤ 1000000) (k : L) (ok : k.Ok) : Ans ctx arena_Put.n [.ag [sV cN l], .ag (cL k)] (putV l k) := by
  obtain ⟨vs, hvs⟩ : ∃ vs, vs = [V.ag [sV cN l], .ag (cL k)] := ⟨_, rfl⟩
  rw [← hvs]
  refine ans arena_Put.f ?_
  have hR := arena_Right.a l hl
  have hL := level_Right.a k ok 5 10
  have hfi : ctx.frz arena_index.n = false := rfl
  have hfp : ctx.frz arena_putter_put.n = false := rfl
  unfold putV
  cases hr : rightN l with
  | false =>
    rw [hr] at hR
    simp +contextual (disch := omega) [Nat.add_assoc, Int.add_assoc, if_pos, if_neg, -Int.not_lt, -Int.not_le, -Nat.not_lt, -Nat.not_le, -List.length_flatMap, arena_Put.c, hvs]
    refine Eg.new (m' := ((Sto.set (fun _ => none) 0 (some (.cells [sV cN l] false))).set 1 (some (.cells (cL k) false))).set 2 (some (.cells [.ns] false))) (lo := 3) (X' := 8) (by omega) (by omega) ?_
    intro B ws m2 h1 h2 h3 h4 h5
    have hst := h2.stor
    have r0 : m2 0 = some (.cells [sV cN l] false) := by rw [h3 0 (by omega)]; simp +contextual (disch := omega) [Nat.add_assoc, Int.add_assoc, if_pos, if_neg, -Int.not_lt, -Int.not_le, -Nat.not_lt, -Nat.not_le, -List.length_flatMap]
    have r2 : m2 2 = some (.cells [.ns] false) := by rw [h3 2 (by omega)]; simp +contextual (disch := omega) [Nat.add_assoc, Int.add_assoc, if_pos, if_neg, -Int.not_lt, -Int.not_le, -Nat.not_lt, -Nat.not_le, -List.length_flatMap]
    have hz := fun M' h => (h2.up (m' := M') (Nat.le_refl _) (Nat.le_refl _) h).bf.fz24
    simp +contextual (disch := omega) [Nat.add_assoc, Int.add_assoc, if_pos, if_neg, -Int.not_lt, -Int.not_le, -Nat.not_lt, -Nat.not_le, -List.length_flatMap, h1, hst.1, hst.2.1, r0, r2, ansK hR]
    rw [hz _ (fun j g1 g2 => by simp +contextual (disch := omega) [Nat.add_assoc, Int.add_assoc, if_pos, if_neg, -Int.not_lt, -Int.not_le, -Nat.not_lt, -Nat.not_le, -List.length_flatMap])]
    simp +contextual (disch := omega) [Nat.add_assoc, Int.add_assoc, if_pos, if_neg, -Int.not_lt, -Int.not_le, -Nat.not_lt, -Nat.not_le, -List.length_flatMap]
  | true =>
    rw [hr] at hR
    cases hk : RightS k 5 10 with
    | false =>
      rw [hk] at hL
      simp +contextual (disch := omega) [Nat.add_assoc, Int.add_assoc, if_pos, if_neg, -Int.not_lt, -Int.not_le, -Nat.not_lt, -Nat.not_le, -List.length_flatMap, arena_Put.c, hvs]
      refine Eg.new (m' := ((Sto.set (fun _ => none) 0 (some (.cells [sV cN l] false))).set 1 (some (.cells (cL k) false))).set 2 (some (.cells [.ns] false))) (lo := 3) (X' := 8) (by omega) (by omega) ?_
      intro B ws m2 h1 h2 h3 h4 h5
      have hst := h2.stor
      have r0 : m2 0 = some (.cells [sV cN l] false) := by rw [h3 0 (by omega)]; simp +contextual (disch := omega) [Nat.add_assoc, Int.add_assoc, if_pos, if_neg, -Int.not_lt, -Int.not_le, -Nat.not_lt, -Nat.not_le, -List.length_flatMap]
      have r1 : m2 1 = some (.cells (cL k) false) := by rw [h3 1 (by omega)]; simp +contextual (disch := omega) [Nat.add_assoc, Int.add_assoc, if_pos, if_neg, -Int.not_lt, -Int.not_le, -Nat.not_lt, -Nat.not_le, -List.length_flatMap]
      have r2 : m2 2 = some (.cells [.ns] false) := by rw [h3 2 (by omega)]; simp +contextual (disch := omega) [Nat.add_assoc, Int.add_assoc, if_pos, if_neg, -Int.not_lt, -Int.not_le, -Nat.not_lt, -Nat.not_le, -List.length_flatMap]
      have hz := fun M' h => (h2.up (m' := M') (Nat.le_refl _) (Nat.le_refl _) h).bf.fz24
      simp +contextual (disch := omega) [Nat.add_assoc, Int.add_assoc, if_pos, if_neg, -Int.not_lt, -Int.not_le, -Nat.not_lt, -Nat.not_le, -List.length_flatMap, h1, hst.1, hst.2.1, r0, r1, r2, ansK hR, ansK hL]
      rw [hz _ (fun j g1 g2 => by simp +contextual (disch := omega) [Nat.add_assoc, Int.add_assoc, if_pos, if_neg, -Int.not_lt, -Int.not_le, -Nat.not_lt, -Nat.not_le, -List.length_flatMap])]
      simp +contextual (disch := omega) [Nat.add_assoc, Int.add_assoc, if_pos, if_neg, -Int.not_lt, -Int.not_le, -Nat.not_lt, -Nat.not_le, -List.length_flatMap]
    | true =>
      rw [hk] at hL
      simp +contextual (disch := omega) [Nat.add_assoc, Int.add_assoc, if_pos, if_neg, -Int.not_lt, -Int.not_le, -Nat.not_lt, -Nat.not_le, -List.length_flatMap, arena_Put.c, hvs]
      refine Eg.new (m' := ((Sto.set (fun _ => none) 0 (some (.cells [sV cN l] false))).set 1 (some (.cells (cL k) false))).set 2 (some (.cells [.ns] false))) (lo := 3) (X' := 8) (by omega) (by omega) ?_
      intro B ws m2 h1 h2 h3 h4 h5
      have hst := h2.stor
      have r0 : m2 0 = some (.cells [sV cN l] false) := by rw [h3 0 (by omega)]; simp +contextual (disch := omega) [Nat.add_assoc, Int.add_assoc, if_pos, if_neg, -Int.not_lt, -Int.not_le, -Nat.not_lt, -Nat.not_le, -List.length_flatMap]
      have r1 : m2 1 = some (.cells (cL k) false) := by rw [h3 1 (by omega)]; simp +contextual (disch := omega) [Nat.add_assoc, Int.add_assoc, if_pos, if_neg, -Int.not_lt, -Int.not_le, -Nat.not_lt, -Nat.not_le, -List.length_flatMap]
      have r2 : m2 2 = some (.cells [.ns] false) := by rw [h3 2 (by omega)]; simp +contextual (disch := omega) [Nat.add_assoc, Int.add_assoc, if_pos, if_neg, -Int.not_lt, -Int.not_le, -Nat.not_lt, -Nat.not_le, -List.length_flatMap]
      simp +contextual (disch := omega) [Nat.add_assoc, Int.add_assoc, if_pos, if_neg, -Int.not_lt, -Int.not_le, -Nat.not_lt, -Nat.not_le, -List.length_flatMap, h1, hst.1, hst.2.1, r0, r1, r2, ansK hR, ansK hL]
      refine Eg.new (m' := ((m2.set 9 (some (.cells [.ns] false))).set 9 (some (.cells [B] false)))) (lo := 19) (X' := 20) (by omega) (by omega) ?_
      intro B1 ws1 m3 k1 k2 k3 k4 k5
      have h5' : ∀ q ∈ ws1.map Prod.fst, q = 19 := fun q hq => by
        obtain ⟨p, hp, rfl⟩ := List.mem_map.1 hq
        exact k5 p hp
      have q0 : m3 0 = some (.cells [sV cN l] false) := by rw [k3 0 (by omega)]; simp +contextual (disch := omega) [Nat.add_assoc, Int.add_assoc, if_pos, if_neg, -Int.not_lt, -Int.not_le, -Nat.not_lt, -Nat.not_le, -List.length_flatMap, r0]
      have q1 : m3 1 = some (.cells (cL k) false) := by rw [k3 1 (by omega)]; simp +contextual (disch := omega) [Nat.add_assoc, Int.add_assoc, if_pos, if_neg, -Int.not_lt, -Int.not_le, -Nat.not_lt, -Nat.not_le, -List.length_flatMap, r1]
      have q2 : m3 2 = some (.cells [.ns] false) := by rw [k3 2 (by omega)]; simp +contextual (disch := omega) [Nat.add_assoc, Int.add_assoc, if_pos, if_neg, -Int.not_lt, -Int.not_le, -Nat.not_lt, -Nat.not_le, -List.length_flatMap, r2]
      have q9 : m3 9 = some (.cells [B] false) := by rw [k3 9 (by omega)]; simp +contextual (disch := omega) [Nat.add_assoc, Int.add_assoc, if_pos, if_neg, -Int.not_lt, -Int.not_le, -Nat.not_lt, -Nat.not_le, -List.length_flatMap]
      have hs1 := k2.stor
      simp +contextual (disch := omega) [Nat.add_assoc, Int.add_assoc, if_pos, if_neg, -Int.not_lt, -Int.not_le, -Nat.not_lt, -Nat.not_le, -List.length_flatMap, k1, q0]
      rw [IfK_pos (fun a b h => by have := k5 _ h; simp only at this; omega)]
      rw [CallX_op (by rfl)]
      refine openg_w arena_index.f rfl (.inl rfl) ?_
      rw [hfi]
      refine arena_index.w l hl ?_
      intro c m4 x4 c1 c2 c3 c4 c5
      have hi := idxT_nodup l l.length (by rw [List.take_length]; exact (right_len hr).2.2) (Nat.le_refl _)
      rw [List.take_length] at hi
      rw [hi] at c3
      have q1' : m4 1 = some (.cells (cL k) false) := by rw [c4 1 (by omega), q1]
      simp +contextual (disch := omega) [Nat.add_assoc, Int.add_assoc, if_pos, if_neg, -Int.not_lt, -Int.not_le, -Nat.not_lt, -Nat.not_le, -List.length_flatMap, hs1.1, hs1.2.1, q1']
      rw [CallX_op (by rfl)]
      refine openg_w arena_putter_put.f rfl (.inl rfl) ?_
      rw [hfp]
      have hB1 : ∀ j, j ∈ refOf B1 → j = 19 := k4
      refine arena_putter_put.w k 5 10 12 (by omega) (RightS_d hk) l B1 _ c _ _ _ (right_len hr).2.2 (by have := (right_len hr).1; omega) (Sto.seq _ _ _) ?_ ?_ (by omega) (by omega) (by omega) (fun h => by have := hB1 _ h; omega) (fun h => by have := hB1 _ h; omega) ?_
      · exact k2.up (by omega) (by omega) (fun j h1 h2 => by rw [Sto.sne _ _ _ _ (by omega), c4 j (by omega)])
      · rw [Sto.sne _ _ _ _ (by omega), c3]
        rfl
      · intro B5 m5 x5 d0 d1 d2 d3 d4 d5 d6 d7
        have hst5 := d2.stor
        have low : ∀ j, j < 19 → m5 j = m3 j := fun j hj => by
          rw [d7 j (by omega) (by omega) (by omega) (fun h => by have := hB1 j h; omega), Sto.sne _ _ _ _ (by omega), c4 j (by omega)]
        have p2 : m5 2 = some (.cells [.ns] false) := by rw [low 2 (by omega), q2]
        have p9 : m5 9 = some (.cells [B] false) := by rw [low 9 (by omega), q9]
        have hB5 : ∀ j, j ∈ refOf B5 → 19 ≤ j ∧ j < x5 := fun j h => by
          have h7 := d2.ref h
          rcases d6 j h with h | h
          · have := hB1 j h; omega
          · omega
        by_cases hle : (putN k l).1.length ≤ 1000
        · simp +contextual (disch := omega) [Nat.add_assoc, Int.add_assoc, if_pos, if_neg, -Int.not_lt, -Int.not_le, -Nat.not_lt, -Nat.not_le, -List.length_flatMap, d1, hst5.1, hst5.2.1, hst5.2.2, hle, p2, p9]
          have hz := fun M' h => (d2.mv (m' := M') (Nat.le_refl _) h).bf.fz24
          rw [hz _ (fun j g1 => by have := hB5 j g1; simp +contextual (disch := omega) [Nat.add_assoc, Int.add_assoc, if_pos, if_neg, -Int.not_lt, -Int.not_le, -Nat.not_lt, -Nat.not_le, -List.length_flatMap])]
          simp +contextual (disch := omega) [Nat.add_assoc, Int.add_assoc, if_pos, if_neg, -Int.not_lt, -Int.not_le, -Nat.not_lt, -Nat.not_le, -List.length_flatMap]
        · simp +contextual (disch := omega) [Nat.add_assoc, Int.add_assoc, if_pos, if_neg, -Int.not_lt, -Int.not_le, -Nat.not_lt, -Nat.not_le, -List.length_flatMap, d1, hst5.1, hst5.2.1, hst5.2.2, hle, p2, p9]
          have hz := fun M' h => (h2.up (m' := M') (Nat.le_refl _) (Nat.le_refl _) h).bf.fz24
          rw [hz _ (fun j g1 g2 => by simp +contextual (disch := omega) [Nat.add_assoc, Int.add_assoc, if_pos, if_neg, -Int.not_lt, -Int.not_le, -Nat.not_lt, -Nat.not_le, -List.length_flatMap]; rw [low j (by omega), k3 j (by omega)]; simp +contextual (disch := omega) [Nat.add_assoc, Int.add_assoc, if_pos, if_neg, -Int.not_lt, -Int.not_le, -Nat.not_lt, -Nat.not_le, -List.length_flatMap])]
          simp +contextual (disch := omega) [Nat.add_assoc, Int.add_assoc, if_pos, if_neg, -Int.not_lt, -Int.not_le, -Nat.not_lt, -Nat.not_le, -List.length_flatMap]
end Pi

