/- Contracts: levels by cases (layer 7): the law near. -/
import Derived.Test.YtjaoacpemboakaaC07f
set_option linter.unusedSimpArgs false
set_option linter.unusedVariables false
namespace Pi
theorem frzL_un {D : Nat → Option (Bool × List V × List V × List Nat)} {v : V} {r w : List V} {ids : List Nat} (h : frzL D (v :: r) = some (w, ids)) : ∃ u z i j, w = u :: z ∧ frzW D v = some (u, i) ∧ frzL D r = some (z, j) := by
  rw [frzL_cons] at h
  cases h1 : frzW D v with
  | none => rw [h1] at h; simp at h
  | some p =>
    cases h2 : frzL D r with
    | none => rw [h1, h2] at h; simp at h
    | some q =>
      rw [h1, h2] at h
      simp at h
      exact ⟨p.1, q.1, p.2, q.2, h.1.symm, rfl, rfl⟩
theorem FzAt.tail {m : Sto} {lo x k : Nat} {v u : V} {r z : List V} (h : FzAt m lo x k (v :: r) (u :: z)) : (∀ m' : Sto, (∀ j, lo ≤ j → j < x → m' j = m j) → ∀ d, k ≤ d → ∃ ids, frzW (der m' d) v = some (u, ids)) ∧ FzAt m lo x k r z := by
  constructor
  · intro m' hm d hd
    obtain ⟨ids, h0⟩ := h m' hm d hd
    obtain ⟨u', z', i, j, e, h1, h2⟩ := frzL_un h0
    injection e with e1 e2
    exact ⟨i, by rw [h1, e1]⟩
  · intro m' hm d hd
    obtain ⟨ids, h0⟩ := h m' hm d hd
    obtain ⟨u', z', i, j, e, h1, h2⟩ := frzL_un h0
    injection e with e1 e2
    exact ⟨j, by rw [h2, e2]⟩
set_option maxHeartbeats 4000000 in
set_option maxRecDepth 20000 in
theorem law07_LeqNear.a (l : List Nat) (hb : Byt l) (ll : l.length ≤ 9223372036854775807) (how : Nat) (hh : how < 256) : Ans ctx law07_LeqNear.n [sV cU l, .i .u8 how] (.b true) := by
  refine ans law07_LeqNear.f ?_
  have bd1 := (mkS_bd l 3 0 4 0).2
  simp +contextual (disch := omega) [Nat.add_assoc, Int.add_assoc, if_pos, if_neg, -Int.not_lt, -Int.not_le, -Nat.not_lt, -Nat.not_le, -List.length_flatMap, law07_LeqNear.c]
  refine made_w l hb 3 0 (by omega) (by omega) 3 3 (by omega) 0 (by omega) (by omega) (by simp +contextual (disch := omega) [Nat.add_assoc, Int.add_assoc, if_pos, if_neg, -Int.not_lt, -Int.not_le, -Nat.not_lt, -Nat.not_le, -List.length_flatMap]) ?_
  have okA := mkS_ok l 3 0 (by omega) (by omega) 4 0
  have okC := mkS_ok l 3 0 (by omega) (by omega) 4 (mkS l 3 0 4 0).2
  intro cs m1 x1 h1 h2 h3 h4 h5
  simp +contextual (disch := omega) [Nat.add_assoc, Int.add_assoc, if_pos, if_neg, -Int.not_lt, -Int.not_le, -Nat.not_lt, -Nat.not_le, -List.length_flatMap]
  refine made_w l hb 3 0 (by omega) (by omega) 3 3 (by omega) (mkS l 3 0 4 0).2 (by omega) (by omega) (by simp +contextual (disch := omega) [Nat.add_assoc, Int.add_assoc, if_pos, if_neg, -Int.not_lt, -Int.not_le, -Nat.not_lt, -Nat.not_le, -List.length_flatMap, h2]) ?_
  intro cs2 m2 x2 q1 q2 q3 q4 q5
  obtain ⟨a0, a1, a2, rfl⟩ : ∃ a0 a1 a2, cs = [a0, a1, a2] := by
    match cs, h1 with
    | [a, b, c], _ => exact ⟨a, b, c, rfl⟩
  obtain ⟨b0, b1, b2, rfl⟩ : ∃ a0 a1 a2, cs2 = [a0, a1, a2] := by
    match cs2, q1 with
    | [a, b, c], _ => exact ⟨a, b, c, rfl⟩
  generalize (mkS l 3 0 4 (mkS l 3 0 4 0).2).1 = C at *
  generalize (mkS l 3 0 4 0).1 = A at *
  have hm : ((how : Int)).tmod 6 = ((how % 6 : Nat) : Int) := by rw [Int.tmod_eq_emod_of_nonneg (by omega)]; omega
  have hq : how % 6 < 6 := by omega
  generalize how % 6 = z at *
  have okS : (L.mk 2 0 [A]).Ok := .mk (by simp) (by simp) (by simp) (by simpa using okA)
  have okM : ∀ k : Int, 0 ≤ k ∧ k ≤ 10 → ∀ X Y : L, X.Ok → Y.Ok → (L.mk k 0 [X, Y]).Ok := fun k hk X Y hX hY => .mk (by simp) (by omega) (by simp) (by simpa using ⟨hX, hY⟩)
  have eA := cL_at A
  have eC := cL_at C
  obtain ⟨ta, hta⟩ : ∃ t, t = sV cL A.kids := ⟨_, rfl⟩
  obtain ⟨tc, htc⟩ : ∃ t, t = sV cL C.kids := ⟨_, rfl⟩
  rw [← hta] at eA
  rw [← htc] at eC
  generalize A.kind = ka at eA
  generalize A.n = na at eA
  generalize C.kind = kc at eC
  generalize C.n = nc at eC
  have zc : z = 0 ∨ z = 1 ∨ z = 2 ∨ z = 3 ∨ z = 4 ∨ z = 5 := by omega
  rw [eA] at h5
  rw [eC] at q5
  obtain ⟨fa0, h5⟩ := h5.tail
  obtain ⟨fa1, h5⟩ := h5.tail
  obtain ⟨fa2, h5⟩ := h5.tail
  obtain ⟨fb0, q5⟩ := q5.tail
  obtain ⟨fb1, q5⟩ := q5.tail
  obtain ⟨fb2, q5⟩ := q5.tail
  have eS : ∀ (k : Int) (ks : List L), cL (L.mk k 0 ks) = [.i .i64 k, .i .i64 0, .sl (ks.flatMap cL) ks.length] := fun k ks => cL_at _
  have mem : ∀ M : Sto, (∀ j, j < x2 → M j = m2 j) → ∀ d, 5 ≤ d → (∃ ids, frzW (der M d) a0 = some (.i .i64 ka, ids)) ∧ (∃ ids, frzW (der M d) a1 = some (.i .i64 na, ids)) ∧ (∃ ids, frzW (der M d) a2 = some (ta, ids)) ∧
      (∃ ids, frzW (der M d) b0 = some (.i .i64 kc, ids)) ∧ (∃ ids, frzW (der M d) b1 = some (.i .i64 nc, ids)) ∧ (∃ ids, frzW (der M d) b2 = some (tc, ids)) := fun M hM d hd =>
    have h1 : ∀ j, 6 ≤ j → j < x1 → M j = m1 j := fun j p1 p2 => (hM j (by omega)).trans (q3 j (by omega) (by omega))
    have h2 : ∀ j, x1 + 1 ≤ j → j < x2 → M j = m2 j := fun j p1 p2 => hM j p2
    ⟨fa0 M h1 d hd, fa1 M h1 d hd, fa2 M h1 d hd, fb0 M h2 d hd, fb1 M h2 d hd, fb2 M h2 d hd⟩
  clear fa0 fa1 fa2 fb0 fb1 fb2 h3 q3 h2 q2
  rcases zc with rfl | rfl | rfl | rfl | rfl | rfl
  · have s1 := law07_same.a A (.mk 3 0 [A, C]) okA (okM 3 (by omega) _ _ okA okC) 3
    have s2 := law07_same.a (.mk 3 0 [A, C]) A (okM 3 (by omega) _ _ okA okC) okA 3
    rw [eS, eA] at s1 s2
    simp only [List.flatMap_cons, List.flatMap_nil, eA, eC, List.cons_append, List.nil_append, List.append_nil, List.length_cons, List.length_nil] at s1 s2
    simp +contextual (disch := omega) [Nat.add_assoc, Int.add_assoc, if_pos, if_neg, -Int.not_lt, -Int.not_le, -Nat.not_lt, -Nat.not_le, -List.length_flatMap, hm]
    generalize hM : Sto.set _ (x2 + 33) _ = M
    have k1 : M x2 = some (.cells [a0, a1, a2] false) := by rw [← hM]; simp +contextual (disch := omega) [Nat.add_assoc, Int.add_assoc, if_pos, if_neg, -Int.not_lt, -Int.not_le, -Nat.not_lt, -Nat.not_le, -List.length_flatMap]
    have k2 : M (x2 + 33) = some (.cells [.i .i64 3, .i .i64 0, .ms (x2 + 6) 0 2 3] false) := by rw [← hM]; simp +contextual (disch := omega) [Nat.add_assoc, Int.add_assoc, if_pos, if_neg, -Int.not_lt, -Int.not_le, -Nat.not_lt, -Nat.not_le, -List.length_flatMap]
    have k3 : M (x2 + 6) = some (.cells [a0, a1, a2, b0, b1, b2] false) := by rw [← hM]; simp +contextual (disch := omega) [Nat.add_assoc, Int.add_assoc, if_pos, if_neg, -Int.not_lt, -Int.not_le, -Nat.not_lt, -Nat.not_le, -List.length_flatMap]
    have k4 : ∀ j, j < x2 → M j = m2 j := fun j hj => by rw [← hM]; simp +contextual (disch := omega) [Nat.add_assoc, Int.add_assoc, if_pos, if_neg, -Int.not_lt, -Int.not_le, -Nat.not_lt, -Nat.not_le, -List.length_flatMap]
    obtain ⟨⟨_, f1⟩, ⟨_, f2⟩, ⟨_, f3⟩, ⟨_, f4⟩, ⟨_, f5⟩, ⟨_, f6⟩⟩ := mem M k4 24 (by omega)
    obtain ⟨⟨_, g1⟩, ⟨_, g2⟩, ⟨_, g3⟩, ⟨_, g4⟩, ⟨_, g5⟩, ⟨_, g6⟩⟩ := mem M k4 23 (by omega)
    clear hM mem
    simp +contextual (disch := omega) [Nat.add_assoc, Int.add_assoc, if_pos, if_neg, -Int.not_lt, -Int.not_le, -Nat.not_lt, -Nat.not_le, -List.length_flatMap, ansK law07_awake.a, k1, k2, k3, f1, f2, f3, f4, f5, f6, g1, g2, g3, g4, g5, g6, ansK s1, ansK s2]
  · have s1 := law07_same.a A (.mk 4 0 [C, A]) okA (okM 4 (by omega) _ _ okC okA) 3
    have s2 := law07_same.a (.mk 4 0 [C, A]) A (okM 4 (by omega) _ _ okC okA) okA 3
    rw [eS, eA] at s1 s2
    simp only [List.flatMap_cons, List.flatMap_nil, eA, eC, List.cons_append, List.nil_append, List.append_nil, List.length_cons, List.length_nil] at s1 s2
    simp +contextual (disch := omega) [Nat.add_assoc, Int.add_assoc, if_pos, if_neg, -Int.not_lt, -Int.not_le, -Nat.not_lt, -Nat.not_le, -List.length_flatMap, hm]
    generalize hM : Sto.set _ (x2 + 33) _ = M
    have k1 : M x2 = some (.cells [a0, a1, a2] false) := by rw [← hM]; simp +contextual (disch := omega) [Nat.add_assoc, Int.add_assoc, if_pos, if_neg, -Int.not_lt, -Int.not_le, -Nat.not_lt, -Nat.not_le, -List.length_flatMap]
    have k2 : M (x2 + 33) = some (.cells [.i .i64 4, .i .i64 0, .ms (x2 + 10) 0 2 3] false) := by rw [← hM]; simp +contextual (disch := omega) [Nat.add_assoc, Int.add_assoc, if_pos, if_neg, -Int.not_lt, -Int.not_le, -Nat.not_lt, -Nat.not_le, -List.length_flatMap]
    have k3 : M (x2 + 10) = some (.cells [b0, b1, b2, a0, a1, a2] false) := by rw [← hM]; simp +contextual (disch := omega) [Nat.add_assoc, Int.add_assoc, if_pos, if_neg, -Int.not_lt, -Int.not_le, -Nat.not_lt, -Nat.not_le, -List.length_flatMap]
    have k4 : ∀ j, j < x2 → M j = m2 j := fun j hj => by rw [← hM]; simp +contextual (disch := omega) [Nat.add_assoc, Int.add_assoc, if_pos, if_neg, -Int.not_lt, -Int.not_le, -Nat.not_lt, -Nat.not_le, -List.length_flatMap]
    obtain ⟨⟨_, f1⟩, ⟨_, f2⟩, ⟨_, f3⟩, ⟨_, f4⟩, ⟨_, f5⟩, ⟨_, f6⟩⟩ := mem M k4 24 (by omega)
    obtain ⟨⟨_, g1⟩, ⟨_, g2⟩, ⟨_, g3⟩, ⟨_, g4⟩, ⟨_, g5⟩, ⟨_, g6⟩⟩ := mem M k4 23 (by omega)
    clear hM mem
    simp +contextual (disch := omega) [Nat.add_assoc, Int.add_assoc, if_pos, if_neg, -Int.not_lt, -Int.not_le, -Nat.not_lt, -Nat.not_le, -List.length_flatMap, ansK law07_awake.a, k1, k2, k3, f1, f2, f3, f4, f5, f6, g1, g2, g3, g4, g5, g6, ansK s1, ansK s2]
  · have s1 := law07_same.a A (.mk 4 0 [A, C]) okA (okM 4 (by omega) _ _ okA okC) 3
    have s2 := law07_same.a (.mk 4 0 [A, C]) A (okM 4 (by omega) _ _ okA okC) okA 3
    rw [eS, eA] at s1 s2
    simp only [List.flatMap_cons, List.flatMap_nil, eA, eC, List.cons_append, List.nil_append, List.append_nil, List.length_cons, List.length_nil] at s1 s2
    simp +contextual (disch := omega) [Nat.add_assoc, Int.add_assoc, if_pos, if_neg, -Int.not_lt, -Int.not_le, -Nat.not_lt, -Nat.not_le, -List.length_flatMap, hm]
    generalize hM : Sto.set _ (x2 + 33) _ = M
    have k1 : M x2 = some (.cells [a0, a1, a2] false) := by rw [← hM]; simp +contextual (disch := omega) [Nat.add_assoc, Int.add_assoc, if_pos, if_neg, -Int.not_lt, -Int.not_le, -Nat.not_lt, -Nat.not_le, -List.length_flatMap]
    have k2 : M (x2 + 33) = some (.cells [.i .i64 4, .i .i64 0, .ms (x2 + 14) 0 2 3] false) := by rw [← hM]; simp +contextual (disch := omega) [Nat.add_assoc, Int.add_assoc, if_pos, if_neg, -Int.not_lt, -Int.not_le, -Nat.not_lt, -Nat.not_le, -List.length_flatMap]
    have k3 : M (x2 + 14) = some (.cells [a0, a1, a2, b0, b1, b2] false) := by rw [← hM]; simp +contextual (disch := omega) [Nat.add_assoc, Int.add_assoc, if_pos, if_neg, -Int.not_lt, -Int.not_le, -Nat.not_lt, -Nat.not_le, -List.length_flatMap]
    have k4 : ∀ j, j < x2 → M j = m2 j := fun j hj => by rw [← hM]; simp +contextual (disch := omega) [Nat.add_assoc, Int.add_assoc, if_pos, if_neg, -Int.not_lt, -Int.not_le, -Nat.not_lt, -Nat.not_le, -List.length_flatMap]
    obtain ⟨⟨_, f1⟩, ⟨_, f2⟩, ⟨_, f3⟩, ⟨_, f4⟩, ⟨_, f5⟩, ⟨_, f6⟩⟩ := mem M k4 24 (by omega)
    obtain ⟨⟨_, g1⟩, ⟨_, g2⟩, ⟨_, g3⟩, ⟨_, g4⟩, ⟨_, g5⟩, ⟨_, g6⟩⟩ := mem M k4 23 (by omega)
    clear hM mem
    simp +contextual (disch := omega) [Nat.add_assoc, Int.add_assoc, if_pos, if_neg, -Int.not_lt, -Int.not_le, -Nat.not_lt, -Nat.not_le, -List.length_flatMap, ansK law07_awake.a, k1, k2, k3, f1, f2, f3, f4, f5, f6, g1, g2, g3, g4, g5, g6, ansK s1, ansK s2]
  · have s1 := law07_same.a A (.mk 2 0 [A]) okA okS 3
    have s2 := law07_same.a (.mk 2 0 [A]) A okS okA 3
    rw [eS, eA] at s1 s2
    simp only [List.flatMap_cons, List.flatMap_nil, eA, eC, List.cons_append, List.nil_append, List.append_nil, List.length_cons, List.length_nil] at s1 s2
    simp +contextual (disch := omega) [Nat.add_assoc, Int.add_assoc, if_pos, if_neg, -Int.not_lt, -Int.not_le, -Nat.not_lt, -Nat.not_le, -List.length_flatMap, hm]
    generalize hM : Sto.set _ (x2 + 33) _ = M
    have k1 : M x2 = some (.cells [a0, a1, a2] false) := by rw [← hM]; simp +contextual (disch := omega) [Nat.add_assoc, Int.add_assoc, if_pos, if_neg, -Int.not_lt, -Int.not_le, -Nat.not_lt, -Nat.not_le, -List.length_flatMap]
    have k2 : M (x2 + 33) = some (.cells [.i .i64 2, .i .i64 0, .ms (x2 + 17) 0 1 3] false) := by rw [← hM]; simp +contextual (disch := omega) [Nat.add_assoc, Int.add_assoc, if_pos, if_neg, -Int.not_lt, -Int.not_le, -Nat.not_lt, -Nat.not_le, -List.length_flatMap]
    have k3 : M (x2 + 17) = some (.cells [a0, a1, a2] false) := by rw [← hM]; simp +contextual (disch := omega) [Nat.add_assoc, Int.add_assoc, if_pos, if_neg, -Int.not_lt, -Int.not_le, -Nat.not_lt, -Nat.not_le, -List.length_flatMap]
    have k4 : ∀ j, j < x2 → M j = m2 j := fun j hj => by rw [← hM]; simp +contextual (disch := omega) [Nat.add_assoc, Int.add_assoc, if_pos, if_neg, -Int.not_lt, -Int.not_le, -Nat.not_lt, -Nat.not_le, -List.length_flatMap]
    obtain ⟨⟨_, f1⟩, ⟨_, f2⟩, ⟨_, f3⟩, ⟨_, f4⟩, ⟨_, f5⟩, ⟨_, f6⟩⟩ := mem M k4 24 (by omega)
    obtain ⟨⟨_, g1⟩, ⟨_, g2⟩, ⟨_, g3⟩, ⟨_, g4⟩, ⟨_, g5⟩, ⟨_, g6⟩⟩ := mem M k4 23 (by omega)
    clear hM mem
    simp +contextual (disch := omega) [Nat.add_assoc, Int.add_assoc, if_pos, if_neg, -Int.not_lt, -Int.not_le, -Nat.not_lt, -Nat.not_le, -List.length_flatMap, ansK law07_awake.a, k1, k2, k3, f1, f2, f3, f4, f5, f6, g1, g2, g3, g4, g5, g6, ansK s1, ansK s2]
  · have s1 := law07_same.a A (.mk 3 0 [A, A]) okA (okM 3 (by omega) _ _ okA okA) 3
    have s2 := law07_same.a (.mk 3 0 [A, A]) A (okM 3 (by omega) _ _ okA okA) okA 3
    rw [eS, eA] at s1 s2
    simp only [List.flatMap_cons, List.flatMap_nil, eA, eC, List.cons_append, List.nil_append, List.append_nil, List.length_cons, List.length_nil] at s1 s2
    simp +contextual (disch := omega) [Nat.add_assoc, Int.add_assoc, if_pos, if_neg, -Int.not_lt, -Int.not_le, -Nat.not_lt, -Nat.not_le, -List.length_flatMap, hm]
    generalize hM : Sto.set _ (x2 + 33) _ = M
    have k1 : M x2 = some (.cells [a0, a1, a2] false) := by rw [← hM]; simp +contextual (disch := omega) [Nat.add_assoc, Int.add_assoc, if_pos, if_neg, -Int.not_lt, -Int.not_le, -Nat.not_lt, -Nat.not_le, -List.length_flatMap]
    have k2 : M (x2 + 33) = some (.cells [.i .i64 3, .i .i64 0, .ms (x2 + 21) 0 2 3] false) := by rw [← hM]; simp +contextual (disch := omega) [Nat.add_assoc, Int.add_assoc, if_pos, if_neg, -Int.not_lt, -Int.not_le, -Nat.not_lt, -Nat.not_le, -List.length_flatMap]
    have k3 : M (x2 + 21) = some (.cells [a0, a1, a2, a0, a1, a2] false) := by rw [← hM]; simp +contextual (disch := omega) [Nat.add_assoc, Int.add_assoc, if_pos, if_neg, -Int.not_lt, -Int.not_le, -Nat.not_lt, -Nat.not_le, -List.length_flatMap]
    have k4 : ∀ j, j < x2 → M j = m2 j := fun j hj => by rw [← hM]; simp +contextual (disch := omega) [Nat.add_assoc, Int.add_assoc, if_pos, if_neg, -Int.not_lt, -Int.not_le, -Nat.not_lt, -Nat.not_le, -List.length_flatMap]
    obtain ⟨⟨_, f1⟩, ⟨_, f2⟩, ⟨_, f3⟩, ⟨_, f4⟩, ⟨_, f5⟩, ⟨_, f6⟩⟩ := mem M k4 24 (by omega)
    obtain ⟨⟨_, g1⟩, ⟨_, g2⟩, ⟨_, g3⟩, ⟨_, g4⟩, ⟨_, g5⟩, ⟨_, g6⟩⟩ := mem M k4 23 (by omega)
    clear hM mem
    simp +contextual (disch := omega) [Nat.add_assoc, Int.add_assoc, if_pos, if_neg, -Int.not_lt, -Int.not_le, -Nat.not_lt, -Nat.not_le, -List.length_flatMap, ansK law07_awake.a, k1, k2, k3, f1, f2, f3, f4, f5, f6, g1, g2, g3, g4, g5, g6, ansK s1, ansK s2]
  · have s1 := law07_same.a A (.mk 4 0 [A, A]) okA (okM 4 (by omega) _ _ okA okA) 3
    have s2 := law07_same.a (.mk 4 0 [A, A]) A (okM 4 (by omega) _ _ okA okA) okA 3
    rw [eS, eA] at s1 s2
    simp only [List.flatMap_cons, List.flatMap_nil, eA, eC, List.cons_append, List.nil_append, List.append_nil, List.length_cons, List.length_nil] at s1 s2
    simp +contextual (disch := omega) [Nat.add_assoc, Int.add_assoc, if_pos, if_neg, -Int.not_lt, -Int.not_le, -Nat.not_lt, -Nat.not_le, -List.length_flatMap, hm]
    generalize hM : Sto.set _ (x2 + 33) _ = M
    have k1 : M x2 = some (.cells [a0, a1, a2] false) := by rw [← hM]; simp +contextual (disch := omega) [Nat.add_assoc, Int.add_assoc, if_pos, if_neg, -Int.not_lt, -Int.not_le, -Nat.not_lt, -Nat.not_le, -List.length_flatMap]
    have k2 : M (x2 + 33) = some (.cells [.i .i64 4, .i .i64 0, .ms (x2 + 25) 0 2 3] false) := by rw [← hM]; simp +contextual (disch := omega) [Nat.add_assoc, Int.add_assoc, if_pos, if_neg, -Int.not_lt, -Int.not_le, -Nat.not_lt, -Nat.not_le, -List.length_flatMap]
    have k3 : M (x2 + 25) = some (.cells [a0, a1, a2, a0, a1, a2] false) := by rw [← hM]; simp +contextual (disch := omega) [Nat.add_assoc, Int.add_assoc, if_pos, if_neg, -Int.not_lt, -Int.not_le, -Nat.not_lt, -Nat.not_le, -List.length_flatMap]
    have k4 : ∀ j, j < x2 → M j = m2 j := fun j hj => by rw [← hM]; simp +contextual (disch := omega) [Nat.add_assoc, Int.add_assoc, if_pos, if_neg, -Int.not_lt, -Int.not_le, -Nat.not_lt, -Nat.not_le, -List.length_flatMap]
    obtain ⟨⟨_, f1⟩, ⟨_, f2⟩, ⟨_, f3⟩, ⟨_, f4⟩, ⟨_, f5⟩, ⟨_, f6⟩⟩ := mem M k4 24 (by omega)
    obtain ⟨⟨_, g1⟩, ⟨_, g2⟩, ⟨_, g3⟩, ⟨_, g4⟩, ⟨_, g5⟩, ⟨_, g6⟩⟩ := mem M k4 23 (by omega)
    clear hM mem
    simp +contextual (disch := omega) [Nat.add_assoc, Int.add_assoc, if_pos, if_neg, -Int.not_lt, -Int.not_le, -Nat.not_lt, -Nat.not_le, -List.length_flatMap, ansK law07_awake.a, k1, k2, k3, f1, f2, f3, f4, f5, f6, g1, g2, g3, g4, g5, g6, ansK s1, ansK s2]
end Pi
