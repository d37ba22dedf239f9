/- Arenas whose lists lie in memory: own, Put (open). -/
import Derived.Test.YtdeichdplcafcaaC04i
import Derived.Test.YtdeichdplcafcaaC04k
import Derived.Test.YtdeichdplcafcaaC04m
set_option linter.unusedSimpArgs false
set_option linter.unusedVariables false
namespace Pi
set_option maxRecDepth 20000 in
theorem ref04_own.w2 (l : List N) (hl : l.length ≤ 1000000) {C : V} {m : Sto} {x : Nat} {K : CR → Sto → Nat → Prop} (hC : Eg m C cN 4 l 0 x)
    (hK : ∀ B m' x', x ≤ x' → (∀ j, j < x → m' j = m j) → Eg m' B cN 4 l x x' → (∀ S, (∀ j, x ≤ j → S j = true) → C.inn S = true → Inn S m → Inn S m' ∧ B.inn S = true) → K (.ret (.ag [B])) m' x') :
    Pi.w ctx (envOf [.ag [C]]) m x [] none none (RetG ctx ref04_own.c.rs K) ref04_own.c.code := by
  by_cases h0 : l = []
  · subst h0
    rcases hC with ⟨rfl, _⟩ | ⟨a, rfl, ha, _, hax⟩
    · simp +contextual (disch := omega) [Nat.add_assoc, Int.add_assoc, if_pos, if_neg, -Int.not_lt, -Int.not_le, -Nat.not_lt, -Nat.not_le, -List.length_flatMap, ref04_own.c]
      exact hK _ _ _ (by omega) (fun j hj => by simp +contextual (disch := omega) [Nat.add_assoc, Int.add_assoc, if_pos, if_neg, -Int.not_lt, -Int.not_le, -Nat.not_lt, -Nat.not_le, -List.length_flatMap]) Eg.nil (fun S hS _ h => ⟨((h.set rfl).set rfl).set rfl, rfl⟩)
    · simp +contextual (disch := omega) [Nat.add_assoc, Int.add_assoc, if_pos, if_neg, -Int.not_lt, -Int.not_le, -Nat.not_lt, -Nat.not_le, -List.length_flatMap, ref04_own.c, ha]
      exact hK _ _ _ (by omega) (fun j hj => by simp +contextual (disch := omega) [Nat.add_assoc, Int.add_assoc, if_pos, if_neg, -Int.not_lt, -Int.not_le, -Nat.not_lt, -Nat.not_le, -List.length_flatMap]) Eg.nil (fun S hS hc h => ⟨((h.set (by simpa [innO, innL, V.inn] using hc)).set rfl).set rfl, rfl⟩)
  · obtain ⟨a, rfl, ha, _, hax⟩ := hC.at h0
    have h1 : l.length ≠ 0 := fun h => h0 (List.eq_nil_of_length_eq_zero h)
    have hln := flat_ln (k := 4) (f := cN) l
    have htk : List.take (l.length * 4) (l.flatMap cN) = l.flatMap cN := List.take_of_length_le (by rw [hln]; exact Nat.le_refl _)
    simp +contextual (disch := omega) [Nat.add_assoc, Int.add_assoc, if_pos, if_neg, -Int.not_lt, -Int.not_le, -Nat.not_lt, -Nat.not_le, -List.length_flatMap, ref04_own.c, -apV_ns, ha, hln, htk]
    refine (Eg.nil (f := cN) (k := 4) (m := m) (lo := x) (x := x)).apx l (fun j h => by simp [refOf] at h) (by omega) rfl rfl h1 (by simp; omega) ?_
    intro ws m2 u1 u2 u3
    have r1 : m2 (x + 1) = some (.cells [.ns] false) := by rw [u3 _ (by simp [refOf]) (by omega)]; simp +contextual (disch := omega) [Nat.add_assoc, Int.add_assoc, if_pos, if_neg, -Int.not_lt, -Int.not_le, -Nat.not_lt, -Nat.not_le, -List.length_flatMap]
    simp +contextual (disch := omega) [Nat.add_assoc, Int.add_assoc, if_pos, if_neg, -Int.not_lt, -Int.not_le, -Nat.not_lt, -Nat.not_le, -List.length_flatMap, u1, r1]
    refine hK _ _ _ (by omega) (fun j hj => ?_) (.inr ⟨x + 4, rfl, ?_, by omega, by omega⟩) (fun S hS hc h => ⟨fun j hj => ?_, hS _ (by omega)⟩)
    · simp +contextual (disch := omega) [Nat.add_assoc, Int.add_assoc, if_pos, if_neg, -Int.not_lt, -Int.not_le, -Nat.not_lt, -Nat.not_le, -List.length_flatMap]
      rw [u3 j (by simp [refOf]) (by omega)]
      simp +contextual (disch := omega) [Nat.add_assoc, Int.add_assoc, if_pos, if_neg, -Int.not_lt, -Int.not_le, -Nat.not_lt, -Nat.not_le, -List.length_flatMap]
    · simp +contextual (disch := omega) [Nat.add_assoc, Int.add_assoc, if_pos, if_neg, -Int.not_lt, -Int.not_le, -Nat.not_lt, -Nat.not_le, -List.length_flatMap, u2]
    · by_cases e1 : j = x + 1
      · subst e1; rw [Sto.seq]; simp [innO, innL, V.inn, hS _ (by omega : x ≤ x + 4)]
      · rw [Sto.sne _ _ _ _ e1]
        by_cases e2 : j = x + 4
        · subst e2; rw [u2]; exact inn_N S _
        · rw [u3 j (by simp [refOf]) e2]
          exact ((h.set (by simpa [innO, innL, V.inn] using hc)).set rfl) j hj
/-- A list that is read, or one in memory. -/
def Sr (m : Sto) (C : V) (l : List N) (x : Nat) : Prop := C = sV cN l ∨ Eg m C cN 4 l 0 x
theorem Sr.up {m m' : Sto} {C : V} {l : List N} {x x' : Nat} (h : Sr m C l x) (hx : x ≤ x') (hm : ∀ j, j < x → m' j = m j) : Sr m' C l x' := by
  rcases h with h | h
  · exact .inl h
  · exact .inr (h.up (Nat.le_refl _) hx (fun j _ h2 => hm j h2))
theorem Sr.stor {m : Sto} {C : V} {l : List N} {x : Nat} (h : Sr m C l x) : C.stor = true ∧ C.cells = [C] ∧ lenSl C = some l.length := by
  rcases h with rfl | h
  · exact ⟨rfl, rfl, rfl⟩
  · exact h.stor
theorem Sr.fz {m : Sto} {C : V} {l : List N} {x : Nat} (h : Sr m C l x) : ∃ ids, frzW (der m 24) C = some (sV cN l, ids) ∧ ∀ j ∈ ids, j < x := by
  rcases h with rfl | h
  · exact ⟨[], by simp, by simp⟩
  · have hz := h.bf.fz24
    exact ⟨_, hz, fun j hj => (h.ref hj).2⟩
theorem own.x (l : List N) (hl : l.length ≤ 1000000) {C : V} {m : Sto} {x : Nat} {K : CR → Sto → Nat → Prop} (hC : Sr m C l x)
    (hK : ∀ B m' x', x ≤ x' → (∀ j, j < x → m' j = m j) → Eg m' B cN 4 l x x' → K (.ret (.ag [B])) m' x') :
    w ctx (envOf [.ag [C]]) m x [] none none (RetG ctx ref04_own.c.rs K) ref04_own.c.code := by
  rcases hC with rfl | h
  · exact ref04_own.w l hl rfl (fun B m' x' h1 h2 h3 _ => hK B m' x' h1 h2 h3)
  · exact ref04_own.w2 l hl h (fun B m' x' h1 h2 h3 _ => hK B m' x' h1 h2 h3)
theorem own_qx (l : List N) (hl : l.length ≤ 1000000) {C : V} {m : Sto} {x : Nat} {K : QR → Prop} (hC : Sr m C l x)
    (hK : ∀ B ws ids m2 x', m.app ws = m2 → x ≤ x' → Eg m2 B cN 4 l x x' → (∀ j, j < x → m2 j = m j) → (∀ l ∈ ids, l ∈ refOf C ∨ (x ≤ l ∧ l < x')) → ws.map Prod.fst = ids → K ⟨.ag [B], ws, ids, x'⟩) :
    wpQuiet ctx (.fn (.func ref04_own.n) [] []) [.ag [C]] m x K := by
  rcases hC with rfl | hB
  · exact own_q l hl (fun B ws ids m2 x' h1 h2 h3 h4 h5 h6 => hK B ws ids m2 x' h1 h2 h3 h4 (fun l hl => .inr (h5 l hl)) h6)
  · have hza : ∃ a, freezeL m [.ag [C]] = some (a, refOf C) := by
      have h24 := hB.bf.fz24
      refine ⟨[.ag [sV cN l]], ?_⟩
      unfold freezeL
      have : DEEP = 24 := rfl
      rw [this]
      simp [h24]
    obtain ⟨a, ha⟩ := hza
    have hne : refOf C ≠ [] ∨ nsyL [V.ag [C]] = true := by
      rcases hB with ⟨rfl, _⟩ | ⟨b, rfl, _⟩
      · exact .inr rfl
      · exact .inl (by simp [refOf])
    have hcell : ∀ j ∈ refOf C, m j = some (.cells (l.flatMap cN) false) ∧ j < x := fun j hj => by
      rcases hB with ⟨rfl, _⟩ | ⟨b, rfl, h1, _, h3⟩
      · simp [refOf] at hj
      · simp [refOf] at hj
        subst hj
        exact ⟨h1, h3⟩
    have hok : reachOK [V.ag [C]] (refOf C) m x = true := by
      unfold reachOK
      simp only [Bool.and_eq_true, List.all_eq_true, decide_eq_true_eq, innL, V.inn, Bool.and_true]
      refine ⟨hB.inn fun j hj => by simpa using hj, fun j hj => ?_⟩
      obtain ⟨h1, h2⟩ := hcell j hj
      rw [h1]
      exact ⟨h2, inn_N _ _⟩
    have honly : Eg (m.only (refOf C)) C cN 4 l 0 x := by
      rcases hB with ⟨rfl, h⟩ | ⟨b, rfl, h1, h2, h3⟩
      · exact .inl ⟨rfl, h⟩
      · exact .inr ⟨b, rfl, by unfold Sto.only; rw [if_pos (by simp [refOf]), h1], h2, h3⟩
    refine openr_w rfl rfl rfl rfl (a := (a, refOf C)) ha hne hok ?_
    refine ref04_own.w2 l hl honly ?_
    intro B m' x' h1 h2 h3 h5
    have hSR : ∀ j, x ≤ j → orNew (refOf C) x j = true := fun j hj => by simp [orNew, hj]
    have hCR : C.inn (orNew (refOf C) x) = true := hB.inn fun j hj => by simp [orNew, hj]
    have hIn0 : Inn (orNew (refOf C) x) (m.only (refOf C)) := fun j hj => by
      unfold Sto.only
      split
      · rename_i hc
        rw [(hcell j (by simpa using hc)).1]
        exact inn_N _ _
      · rfl
    obtain ⟨i1, i2⟩ := h5 _ hSR hCR hIn0
    refine ⟨by simp [V.inn, innL, i2], fun l hl => i1 l (by simp [orNew, hl]), fun j q1 q2 => i1 j (hSR j q1), fun ws ids w1 w2 w3 => ?_⟩
    have hxx : x + (x' - x) = x' := by omega
    rw [hxx]
    have hM : ∀ l, (m.app ws) l = if x ≤ l ∧ l < x' then m' l else if (refOf C).contains l = true then m' l else m l := w3 m
    refine hK B ws ids _ x' rfl h1 ?_ (fun j q1 => ?_) w1 w2
    · exact h3.up (Nat.le_refl _) (Nat.le_refl _) (fun j q1 q2 => by rw [hM, if_pos ⟨q1, q2⟩])
    · rw [hM, if_neg (by omega)]
      split
      · rename_i hc
        rw [h2 j q1]
        unfold Sto.only
        rw [if_pos hc]
      · rfl
set_option maxRecDepth 20000 in
set_option maxHeartbeats 4000000 in
theorem putV_n {l : List N} {k : L} (h : rightN l = true ∧ RightS k 5 10 = true → False) : putV l k = .tu [.ag [sV cN (putA l k)], .i .i64 0, .i .i64 1] := by
  unfold putV putA
  rw [if_neg h, if_neg (fun g => h ⟨g.1, g.2.1⟩)]
set_option maxRecDepth 20000 in
set_option maxHeartbeats 4000000 in
theorem ref04_Put.w (l : List N) (hl : l.length ≤ 1000000) (k : L) (ok : k.Ok) {C : V} {m : Sto} {x : Nat} {K : CR → Sto → Nat → Prop} (hC : Sr m C l x)
    (hK : ∀ B n e m' x', putV l k = .tu [.ag [sV cN (putA l k)], .i .i64 n, .i .i64 e] → x ≤ x' → (∀ j, j < x → m' j = m j) → Eg m' B cN 4 (putA l k) x x' → K (.ret (.tu [.ag [B], .i .i64 n, .i .i64 e])) m' x') :
    Pi.w ctx (envOf [.ag [C], .ag (cL k)]) m x [] none none (RetG ctx ref04_Put.c.rs K) ref04_Put.c.code := by
  obtain ⟨vs, hvs⟩ : ∃ vs, vs = [V.ag [C], .ag (cL k)] := ⟨_, rfl⟩
  rw [← hvs]
  have hR := ref04_Right.a l hl
  have hL := ref02_Right.a k ok 5 10
  have hfo : ctx.frz ref04_own.n = false := rfl
  have hst := hC.stor
  obtain ⟨ids, hz, hids⟩ := (hC.up (m' := ((m.set x (some (PObj.cells [C] false))).set (x + 1) (some (PObj.cells (cL k) false))).set (x + 2) (some (PObj.cells [V.ns] false))) (Nat.le_refl _) (fun j hj => by simp +contextual (disch := omega) [Nat.add_assoc, Int.add_assoc, if_pos, if_neg, -Int.not_lt, -Int.not_le, -Nat.not_lt, -Nat.not_le, -List.length_flatMap])).fz
  cases hr : rightN l with
  | false =>
    rw [hr] at hR
    have hp : putA l k = l := by unfold putA; rw [hr]; simp
    simp +contextual (disch := omega) [Nat.add_assoc, Int.add_assoc, if_pos, if_neg, -Int.not_lt, -Int.not_le, -Nat.not_lt, -Nat.not_le, -List.length_flatMap, ref04_Put.c, hvs, hst.1, hst.2.1, hst.2.2, hz, ansK hR]
    rw [CallX_op (by rfl)]
    refine openg_w ref04_own.f rfl (.inl rfl) ?_
    rw [hfo]
    refine own.x l hl (hC.up (by omega) (fun j hj => by simp +contextual (disch := omega) [Nat.add_assoc, Int.add_assoc, if_pos, if_neg, -Int.not_lt, -Int.not_le, -Nat.not_lt, -Nat.not_le, -List.length_flatMap])) ?_
    intro B m' x' h1 h2 h3
    have q2 : m' (x + 2) = some (.cells [.ns] false) := by rw [h2 _ (by omega)]; simp +contextual (disch := omega) [Nat.add_assoc, Int.add_assoc, if_pos, if_neg, -Int.not_lt, -Int.not_le, -Nat.not_lt, -Nat.not_le, -List.length_flatMap]
    have hs3 := h3.stor
    simp +contextual (disch := omega) [Nat.add_assoc, Int.add_assoc, if_pos, if_neg, -Int.not_lt, -Int.not_le, -Nat.not_lt, -Nat.not_le, -List.length_flatMap, q2, hs3.1, hs3.2.1]
    have hpv : putV l k = _ := putV_n (fun h => by rw [hr] at h; cases h.1)
    refine hK _ _ _ _ _ hpv (by omega) (fun j hj => ?_) ?_
    · simp +contextual (disch := omega) [Nat.add_assoc, Int.add_assoc, if_pos, if_neg, -Int.not_lt, -Int.not_le, -Nat.not_lt, -Nat.not_le, -List.length_flatMap, h2 j (by omega)]
    · rw [hp]
      exact h3.up (by omega) (by omega) (fun j g1 g2 => Sto.sne _ _ _ _ (by omega))
  | true =>
    rw [hr] at hR
    cases hk : RightS k 5 10 with
    | false =>
      rw [hk] at hL
      have hp : putA l k = l := by unfold putA; rw [hk]; simp
      simp +contextual (disch := omega) [Nat.add_assoc, Int.add_assoc, if_pos, if_neg, -Int.not_lt, -Int.not_le, -Nat.not_lt, -Nat.not_le, -List.length_flatMap, ref04_Put.c, hvs, hst.1, hst.2.1, hst.2.2, hz, ansK hR, ansK hL]
      rw [CallX_op (by rfl)]
      refine openg_w ref04_own.f rfl (.inl rfl) ?_
      rw [hfo]
      refine own.x l hl (hC.up (by omega) (fun j hj => by simp +contextual (disch := omega) [Nat.add_assoc, Int.add_assoc, if_pos, if_neg, -Int.not_lt, -Int.not_le, -Nat.not_lt, -Nat.not_le, -List.length_flatMap])) ?_
      intro B m' x' h1 h2 h3
      have q2 : m' (x + 2) = some (.cells [.ns] false) := by rw [h2 _ (by omega)]; simp +contextual (disch := omega) [Nat.add_assoc, Int.add_assoc, if_pos, if_neg, -Int.not_lt, -Int.not_le, -Nat.not_lt, -Nat.not_le, -List.length_flatMap]
      have hs3 := h3.stor
      simp +contextual (disch := omega) [Nat.add_assoc, Int.add_assoc, if_pos, if_neg, -Int.not_lt, -Int.not_le, -Nat.not_lt, -Nat.not_le, -List.length_flatMap, q2, hs3.1, hs3.2.1]
      have hpv : putV l k = _ := putV_n (fun h => by rw [hk] at h; cases h.2)
      refine hK _ _ _ _ _ hpv (by omega) (fun j hj => ?_) ?_
      · simp +contextual (disch := omega) [Nat.add_assoc, Int.add_assoc, if_pos, if_neg, -Int.not_lt, -Int.not_le, -Nat.not_lt, -Nat.not_le, -List.length_flatMap, h2 j (by omega)]
      · rw [hp]
        exact h3.up (by omega) (by omega) (fun j g1 g2 => Sto.sne _ _ _ _ (by omega))
    | true =>
      rw [hk] at hL
      simp +contextual (disch := omega) [Nat.add_assoc, Int.add_assoc, if_pos, if_neg, -Int.not_lt, -Int.not_le, -Nat.not_lt, -Nat.not_le, -List.length_flatMap, ref04_Put.c, hvs, hst.1, hst.2.1, hst.2.2, hz, ansK hR, ansK hL]
      rw [CallQ_op (by rfl)]
      refine own_qx l hl (hC.up (by omega) (fun j hj => by simp +contextual (disch := omega) [Nat.add_assoc, Int.add_assoc, if_pos, if_neg, -Int.not_lt, -Int.not_le, -Nat.not_lt, -Nat.not_le, -List.length_flatMap])) ?_
      intro B ws ids1 m2 x' h1 h2 h3 h4 h5 h6
      have m1 : m2 (x + 1) = some (.cells (cL k) false) := by rw [h4 _ (by omega)]; simp +contextual (disch := omega) [Nat.add_assoc, Int.add_assoc, if_pos, if_neg, -Int.not_lt, -Int.not_le, -Nat.not_lt, -Nat.not_le, -List.length_flatMap]
      simp +contextual (disch := omega) [Nat.add_assoc, Int.add_assoc, if_pos, if_neg, -Int.not_lt, -Int.not_le, -Nat.not_lt, -Nat.not_le, -List.length_flatMap, h1, m1]
      rw [CallQ_op (by rfl)]
      refine put_q (ref04_put.w k 5 10 12 (by omega) (RightS_d hk)) (by have := (right_len hr).1; omega) (h3.up (Nat.zero_le _) (by omega) (fun j g1 g2 => rfl)) ?_
      intro B' ws' ids' m3 x3 k1 k2 k3 k4 k5 k6 k7 k8
      simp +contextual (disch := omega) [Nat.add_assoc, Int.add_assoc, if_pos, if_neg, -Int.not_lt, -Int.not_le, -Nat.not_lt, -Nat.not_le, -List.length_flatMap, k1]
      have e1 : ∀ a (b : Option PObj), (a, b) ∈ ws → a ∈ ids1 := fun a b h => h6 ▸ List.mem_map.2 ⟨(a, b), h, rfl⟩
      have e2 : ∀ a (b : Option PObj), (a, b) ∈ ws' → a ∈ ids' := fun a b h => k7 ▸ List.mem_map.2 ⟨(a, b), h, rfl⟩
      have f1 : ∀ a, a ∈ ids1 → a < x ∨ x + 3 ≤ a := fun a h => by
        rcases h5 a h with h | h
        · rcases hC with rfl | hc
          · simp [refOf, sV] at h
          · have := hc.ref h; omega
        · omega
      have f1' : ∀ a, a ∈ ids1 → a < x3 + 3 := fun a h => by
        rcases h5 a h with h | h
        · rcases hC with rfl | hc
          · simp [refOf, sV] at h
          · have := hc.ref h; omega
        · omega
      have f2 : ∀ a, a ∈ ids' → a < x3 + 3 := fun a h => by
        rcases k6 a h with h | h
        · have := h3.ref h; omega
        · omega
      rw [IfK_pos ⟨fun a b h => by have := f1 a (e1 a b h); omega, by omega, ⟨fun a b h => by have := f1' a (e1 a b h); omega, fun h => by have := f1' _ h; omega⟩, by omega, fun a b h => by have := f2 a (e2 a b h); omega, fun h => by have := f2 _ h; omega⟩]
      have hst3 := k3.stor
      have hB1 : ∀ j, j ∈ refOf B → x + 3 ≤ j := fun j h => by have := h3.ref h; omega
      have hB2 : ∀ j, j ∈ refOf B' → x + 3 ≤ j ∧ j < x3 := fun j h => by
        have h7 := k3.ref h
        rcases k4 j h with h | h
        · have := hB1 j h; omega
        · omega
      have low : ∀ j, j < x + 3 → m3 j = m2 j := fun j hj => by rw [k5 j (by omega) (fun h => by have := hB1 _ h; omega)]
      have n0 : m3 x = some (.cells [C] false) := by rw [low _ (by omega), h4 _ (by omega)]; simp +contextual (disch := omega) [Nat.add_assoc, Int.add_assoc, if_pos, if_neg, -Int.not_lt, -Int.not_le, -Nat.not_lt, -Nat.not_le, -List.length_flatMap]
      have n2 : m3 (x + 2) = some (.cells [.ns] false) := by rw [low _ (by omega), h4 _ (by omega)]; simp +contextual (disch := omega) [Nat.add_assoc, Int.add_assoc, if_pos, if_neg, -Int.not_lt, -Int.not_le, -Nat.not_lt, -Nat.not_le, -List.length_flatMap]
      by_cases hle : (putN k l).1.length ≤ 1000
      · have hp : putA l k = (putN k l).1 := by unfold putA; rw [if_pos ⟨hr, hk, hle⟩]
        have hpv : putV l k = .tu [.ag [sV cN (putA l k)], .i .i64 (putN k l).2, .i .i64 0] := by unfold putV; rw [if_pos ⟨hr, hk⟩, if_pos hle, hp]
        simp +contextual (disch := omega) [Nat.add_assoc, Int.add_assoc, if_pos, if_neg, -Int.not_lt, -Int.not_le, -Nat.not_lt, -Nat.not_le, -List.length_flatMap, hst3.1, hst3.2.1, hst3.2.2, hle, n0, n2]
        refine hK _ _ _ _ _ hpv (by omega) (fun j hj => ?_) ?_
        · simp +contextual (disch := omega) [Nat.add_assoc, Int.add_assoc, if_pos, if_neg, -Int.not_lt, -Int.not_le, -Nat.not_lt, -Nat.not_le, -List.length_flatMap, low j (by omega), h4 j (by omega)]
        · rw [hp]
          rcases k3 with ⟨rfl, e⟩ | ⟨a, rfl, z1, z2, z3⟩
          · exact .inl ⟨rfl, e⟩
          · have := hB2 a (by simp [refOf])
            refine .inr ⟨a, rfl, ?_, by omega, by omega⟩
            rw [Sto.sne _ _ _ _ (by omega), Sto.sne _ _ _ _ (by omega), Sto.sne _ _ _ _ (by omega), z1]
      · have hp : putA l k = l := by unfold putA; rw [if_neg (fun g => hle g.2.2)]
        have hpv : putV l k = .tu [.ag [sV cN (putA l k)], .i .i64 0, .i .i64 2] := by unfold putV; rw [if_pos ⟨hr, hk⟩, if_neg hle, hp]
        simp +contextual (disch := omega) [Nat.add_assoc, Int.add_assoc, if_pos, if_neg, -Int.not_lt, -Int.not_le, -Nat.not_lt, -Nat.not_le, -List.length_flatMap, hst3.1, hst3.2.1, hst3.2.2, hle, n0, n2, hst.1, hst.2.1]
        rw [CallX_op (by rfl)]
        refine openg_w ref04_own.f rfl (.inl rfl) ?_
        rw [hfo]
        refine own.x l hl (hC.up (by omega) (fun j hj => by simp +contextual (disch := omega) [Nat.add_assoc, Int.add_assoc, if_pos, if_neg, -Int.not_lt, -Int.not_le, -Nat.not_lt, -Nat.not_le, -List.length_flatMap, low j (by omega), h4 j (by omega)])) ?_
        intro B4 m4 x4 g1 g2 g3
        have q2 : m4 (x + 2) = some (.cells [.ns] false) := by rw [g2 _ (by omega)]; simp +contextual (disch := omega) [Nat.add_assoc, Int.add_assoc, if_pos, if_neg, -Int.not_lt, -Int.not_le, -Nat.not_lt, -Nat.not_le, -List.length_flatMap, n2]
        have hst4 := g3.stor
        simp +contextual (disch := omega) [Nat.add_assoc, Int.add_assoc, if_pos, if_neg, -Int.not_lt, -Int.not_le, -Nat.not_lt, -Nat.not_le, -List.length_flatMap, q2, hst4.1, hst4.2.1]
        refine hK _ _ _ _ _ hpv (by omega) (fun j hj => ?_) ?_
        · simp +contextual (disch := omega) [Nat.add_assoc, Int.add_assoc, if_pos, if_neg, -Int.not_lt, -Int.not_le, -Nat.not_lt, -Nat.not_le, -List.length_flatMap, g2 j (by omega), low j (by omega), h4 j (by omega)]
        · rw [hp]
          exact g3.up (by omega) (by omega) (fun j g1 g2 => Sto.sne _ _ _ _ (by omega))
set_option maxRecDepth 20000 in
theorem law04_told.b (l : List N) (k : L) (ok : k.Ok) (i : Int) (hl : l.length ≤ 1000000) : Ans ctx law04_told.n [.ag [sV cN l], .ag (cL k), .i .i64 i] (.b true) := by
  refine ans law04_told.f ?_
  obtain ⟨a, e, hp⟩ := putV_A l k
  have hns : (putA l k).length ≤ 1000000 := by
    unfold putA
    split
    · rename_i h; omega
    · exact hl
  obtain ⟨x, g, hg, hx⟩ := getV_tu l i
  have h1 := arena_Put.a l hl k ok
  have h3 := arena_Get.a l hl i
  have h4 := ref04_Get.a l hl i
  rw [hp] at h1
  rw [hg] at h3 h4
  have hS := ref04_Same.a (putA l k) (putA l k) hns
  rw [decide_eq_true rfl] at hS
  have hfo : ctx.frz ref04_Put.n = false := rfl
  simp +contextual (disch := omega) [Nat.add_assoc, Int.add_assoc, if_pos, if_neg, -Int.not_lt, -Int.not_le, -Nat.not_lt, -Nat.not_le, -List.length_flatMap, law04_told.c, ansK h1]
  rw [CallX_op (by rfl)]
  refine openg_w ref04_Put.f rfl (.inl rfl) ?_
  rw [hfo]
  refine ref04_Put.w l hl k ok (.inl rfl) ?_
  intro B n e' m' x' q1 q2 q3 q4
  rw [hp] at q1
  have q5 : a = n ∧ e = e' := by simpa using q1
  obtain ⟨rfl, rfl⟩ := q5
  generalize putA l k = ns at *
  have r0 : m' 0 = some (.cells [sV cN l] false) := by rw [q3 _ (by omega)]; simp +contextual (disch := omega) [Nat.add_assoc, Int.add_assoc, if_pos, if_neg, -Int.not_lt, -Int.not_le, -Nat.not_lt, -Nat.not_le, -List.length_flatMap]
  have r1 : m' 1 = some (.cells (cL k) false) := by rw [q3 _ (by omega)]; simp +contextual (disch := omega) [Nat.add_assoc, Int.add_assoc, if_pos, if_neg, -Int.not_lt, -Int.not_le, -Nat.not_lt, -Nat.not_le, -List.length_flatMap]
  have r9 : m' 9 = some (.cells [sV cN ns] false) := by rw [q3 _ (by omega)]; simp +contextual (disch := omega) [Nat.add_assoc, Int.add_assoc, if_pos, if_neg, -Int.not_lt, -Int.not_le, -Nat.not_lt, -Nat.not_le, -List.length_flatMap]
  have hst := q4.stor
  have hz := fun M' h => (q4.up (m' := M') (Nat.le_refl _) (Nat.le_refl _) h).bf.fz24
  simp +contextual (disch := omega) [Nat.add_assoc, Int.add_assoc, if_pos, if_neg, -Int.not_lt, -Int.not_le, -Nat.not_lt, -Nat.not_le, -List.length_flatMap, r0, r1, r9, hst.1, hst.2.1, ansK h3, ansK h4, ansK (arena_Right.a l hl), ansK (ref04_Right.a l hl)]
  rw [hz _ (fun j g1 g2 => by simp +contextual (disch := omega) [Nat.add_assoc, Int.add_assoc, if_pos, if_neg, -Int.not_lt, -Int.not_le, -Nat.not_lt, -Nat.not_le, -List.length_flatMap])]
  simp +contextual (disch := omega) [Nat.add_assoc, Int.add_assoc, if_pos, if_neg, -Int.not_lt, -Int.not_le, -Nat.not_lt, -Nat.not_le, -List.length_flatMap, r0, r1, r9, ansK hS, ansK (ref02_Same.a x hx x hx)]
end Pi
