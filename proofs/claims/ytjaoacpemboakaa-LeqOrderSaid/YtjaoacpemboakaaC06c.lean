/- Contracts: flats (layer 6): the greatest of flats. -/
import Derived.Test.YtjaoacpemboakaaC06b
set_option linter.unusedSimpArgs false
set_option linter.unusedVariables false
namespace Pi
def zipM : List Int → List Int → List Int
  | a :: l, b :: r => max a b :: zipM l r
  | _, _ => []
theorem zipM_len : ∀ {a b : List Int}, a.length = b.length → (zipM a b).length = a.length
  | [], [], _ => rfl
  | _ :: a, _ :: b, h => by simp [zipM, zipM_len (by simpa using h : a.length = b.length)]
  | [], _ :: _, h => by simp at h
  | _ :: _, [], h => by simp at h
theorem zipM_at : ∀ {a b : List Int} {i : Nat} (h1 : i < a.length) (h2 : i < b.length), (zipM (a.take i) (b.take i) ++ a.drop i).set i (max a[i] b[i]) = zipM (a.take (i + 1)) (b.take (i + 1)) ++ a.drop (i + 1)
  | x :: a, y :: b, 0, _, _ => by simp [zipM]
  | x :: a, y :: b, i + 1, h1, h2 => by
    have := zipM_at (a := a) (b := b) (i := i) (by simpa using h1) (by simpa using h2)
    simp only [List.take_succ_cons, zipM, List.drop_succ_cons, List.cons_append, List.set_cons_succ, List.getElem_cons_succ, this]
  | [], _, _, h, _ => by simp at h
  | _ :: _, [], _, _, h => by simp at h
theorem zipM_get : ∀ {a b : List Int} {i : Nat} (h1 : i < a.length) (h2 : i < b.length), (zipM (a.take i) (b.take i) ++ a.drop i)[i]? = some a[i]
  | x :: a, y :: b, 0, _, _ => by simp [zipM]
  | x :: a, y :: b, i + 1, h1, h2 => by
    have := zipM_get (a := a) (b := b) (i := i) (by simpa using h1) (by simpa using h2)
    simp only [List.take_succ_cons, zipM, List.drop_succ_cons, List.cons_append, List.getElem?_cons_succ, List.getElem_cons_succ, this]
  | [], _, _, h, _ => by simp at h
  | _ :: _, [], _, _, h => by simp at h
def joinF (f g : F) : F := ⟨max f.cst g.cst, zipM f.offs g.offs⟩
set_option maxHeartbeats 1000000 in
theorem flat_join.w {m : Sto} {x lo b : Nat} {K : CR → Sto → Nat → Prop} (f g : F) (B C : V) (hB : Ex m B f.offs lo x) (hC : Ex m C g.offs lo x) (hlo : lo ≤ x) (hl : f.offs.length = g.offs.length) (hl2 : f.offs.length ≤ 1000) (hb : m b = some (.cells [.i .i64 g.cst, C] false)) (hbx : b < x)
    (hK : ∀ D m' x', x ≤ x' → (∀ j, j < x → m' j = m j) → Ex m' D (joinF f g).offs x x' → (∀ y, y ≤ lo → Own m y → Own m' y) → K (.ret (.ag [.i .i64 (joinF f g).cst, D])) m' x') :
    w ctx (envOf [.ag [.i .i64 f.cst, B], .ms b 0 1 2]) m x [] none none (RetG ctx flat_join.c.rs K) flat_join.c.code := by
  obtain ⟨u1, u2, u3⟩ := hB.stor
  obtain ⟨v1, v2, v3⟩ := hC.stor
  by_cases h0 : f.offs.length = 0
  · have hf : f.offs = [] := List.eq_nil_of_length_eq_zero h0
    have hg : g.offs = [] := List.eq_nil_of_length_eq_zero (by omega)
    have s1 := (Rl.Bf hB.bf).sl ((m.set x (some (.cells [.i .i64 f.cst, B] false))).set (x + 1) (some (.cells [.i .i64 0, .ns] false))) (.eq fun j hj => by have := hj.2; rw [Sto.sne _ _ _ _ (by omega), Sto.sne _ _ _ _ (by omega)])
    rw [hf] at s1 u3
    rw [hg] at v3
    simp +contextual (disch := omega) [Nat.add_assoc, Int.add_assoc, if_pos, if_neg, -Int.not_lt, -Int.not_le, -Nat.not_lt, -Nat.not_le, -List.length_flatMap, flat_join.c, s1, u1, u2, u3, hb]
    rw [IfK_neg (show ¬ x + 8 ∈ refOf B from fun h => by have := hB.ref h; omega)]
    refine un_w ?_
    simp +contextual (disch := omega) [Nat.add_assoc, Int.add_assoc, if_pos, if_neg, -Int.not_lt, -Int.not_le, -Nat.not_lt, -Nat.not_le, -List.length_flatMap, flat_join.b2, hb, v1, v2, v3]
    refine un_w ?_
    simp +contextual (disch := omega) [Nat.add_assoc, Int.add_assoc, if_pos, if_neg, -Int.not_lt, -Int.not_le, -Nat.not_lt, -Nat.not_le, -List.length_flatMap, flat_join.b1]
    refine un_w ?_
    simp +contextual (disch := omega) [Nat.add_assoc, Int.add_assoc, if_pos, if_neg, -Int.not_lt, -Int.not_le, -Nat.not_lt, -Nat.not_le, -List.length_flatMap, flat_join.b2]
    refine hK .ns _ _ (by omega) (fun j hj => ?_) (.inl ⟨rfl, by simp [joinF, hf, zipM]⟩) (fun y hy h => ?_)
    · simp +contextual (disch := omega) [Nat.add_assoc, Int.add_assoc, if_pos, if_neg, -Int.not_lt, -Int.not_le, -Nat.not_lt, -Nat.not_le, -List.length_flatMap]
    · have o1 := hB.over hy
      have o2 := hC.over hy
      repeat refine Own.set ?_ (by simp [ownO, overL, V.over, o1, o2])
      exact h
  · rcases hB with ⟨_, h⟩ | ⟨a1, rfl, p1, p2, p3⟩
    · rw [h] at h0; simp at h0
    rcases hC with ⟨_, h⟩ | ⟨a2, rfl, q1, q2, q3⟩
    · rw [h] at hl; exact (h0 hl).elim
    have hfl : (f.offs.flatMap cI).length = f.offs.length := flatI_len _
    have hgl : (g.offs.flatMap cI).length = g.offs.length := flatI_len _
    obtain ⟨N, hN⟩ : ∃ N, N = f.offs.length := ⟨_, rfl⟩
    rw [← hl, ← hN] at hb
    rw [← hN] at h0 hfl ⊢
    simp +contextual (disch := omega) [Nat.add_assoc, Int.add_assoc, if_pos, if_neg, -Int.not_lt, -Int.not_le, -Nat.not_lt, -Nat.not_le, -List.length_flatMap, flat_join.c, hb, p1, q1, hfl, h0]
    refine un_w ?_
    simp +contextual (disch := omega) [Nat.add_assoc, Int.add_assoc, if_pos, if_neg, -Int.not_lt, -Int.not_le, -Nat.not_lt, -Nat.not_le, -List.length_flatMap, flat_join.b2, hb, p1, q1, hfl, h0]
    refine for_w (fun i e m' x' => e 4 = .p (x + 1) 0 ∧ e 5 = .p (x + 8) 0 ∧ e 17 = .i .i64 1 ∧ e 18 = .i .i64 0 ∧ e 29 = .ms a2 0 N 1 ∧ e 30 = .i .i64 N ∧ e 31 = .i .i64 i ∧ x + 17 ≤ x' ∧ m' (x + 1) = some (.cells [.i .i64 0, .ns] false) ∧
      m' (x + 8) = some (.cells [.i .i64 (max f.cst g.cst), .ms (x + 6) 0 N 1] false) ∧ m' (x + 6) = some (.cells ((zipM (f.offs.take i) (g.offs.take i) ++ f.offs.drop i).flatMap cI) false) ∧ (∀ j, j < x → m' j = m j) ∧ (∀ y, y ≤ lo → Own m y → Own m' y)) N ?_ ?_ ?_
    · have htk := flatI_all hN
      simp +contextual (disch := omega) [Nat.add_assoc, Int.add_assoc, if_pos, if_neg, -Int.not_lt, -Int.not_le, -Nat.not_lt, -Nat.not_le, -List.length_flatMap, htk, zipM]
      refine fun y hy h => ?_
      have hy1 : y ≤ a1 := by omega
      have hy2 : y ≤ a2 := by omega
      have hy3 : y ≤ x + 6 := by omega
      repeat refine Own.set ?_ (by first | exact over_cI y _ | simp [ownO, overL, V.over, hy1, hy2, hy3])
      exact h
    · rintro i e m' x' hi ⟨g4, g5, g17, g18, g29, g30, g31, gx, y1, y8, y6, gm, go⟩
      have hi1 : i < f.offs.length := by omega
      have hi2 : i < g.offs.length := by omega
      have q1' : m' a2 = some (.cells (g.offs.flatMap cI) false) := by rw [gm a2 q3, q1]
      have hzs := zipM_at hi1 hi2
      have hzg := zipM_get hi1 hi2
      have hzl : (zipM (f.offs.take i) (g.offs.take i) ++ f.offs.drop i).length = N := by
        rw [List.length_append, zipM_len (by simp [List.length_take]; omega)]
        simp; omega
      obtain ⟨o, hoe⟩ : ∃ o, o = zipM (f.offs.take i) (g.offs.take i) ++ f.offs.drop i := ⟨_, rfl⟩
      rw [← hoe] at hzs hzg hzl y6
      have hol : (o.flatMap cI).length = N := by rw [flatI_len, hzl]
      have hat : ∀ h : i < (o.flatMap cI).length, (o.flatMap cI)[i] = V.i .i64 f.offs[i] := fun h => by
        rw [flatI_get h]
        rw [List.getElem?_eq_getElem (by omega)] at hzg
        simp only [Option.some.injEq] at hzg
        rw [hzg]
      have hat2 : ∀ h : i < (g.offs.flatMap cI).length, (g.offs.flatMap cI)[i] = V.i .i64 g.offs[i] := fun h => flatI_get h
      have hgl2 : (g.offs.flatMap cI).length = N := by rw [flatI_len]; omega
      simp +contextual (disch := omega) [Nat.add_assoc, Int.add_assoc, if_pos, if_neg, -Int.not_lt, -Int.not_le, -Nat.not_lt, -Nat.not_le, -List.length_flatMap, flat_join.b1, g4, g5, g17, g18, g29, g30, g31, y1, y8, y6, q1', hi, hol, hat, hat2, hgl2]
      refine ⟨by omega, ?_, gm, fun y hy h => ?_⟩
      · rw [flatI_set (by omega), hzs, List.flatMap_append]
      · refine (go y hy h).set ?_
        rw [flatI_set (by omega)]
        exact over_cI y _
    · rintro e m' x' ⟨g4, g5, g17, g18, g29, g30, g31, gx, y1, y8, y6, gm, go⟩
      simp +contextual (disch := omega) [Nat.add_assoc, Int.add_assoc, if_pos, if_neg, -Int.not_lt, -Int.not_le, -Nat.not_lt, -Nat.not_le, -List.length_flatMap, flat_join.b1, g4, g5, g17, g18, g29, g30, g31]
      refine un_w ?_
      simp +contextual (disch := omega) [Nat.add_assoc, Int.add_assoc, if_pos, if_neg, -Int.not_lt, -Int.not_le, -Nat.not_lt, -Nat.not_le, -List.length_flatMap, flat_join.b2, g4, g5, g17, g18, y1, y8]
      rw [hN, List.take_length, hl, List.take_length, ← hl, List.drop_of_length_le (Nat.le_refl _), List.append_nil] at y6
      refine hK _ _ _ (by omega) (fun j hj => by rw [Sto.sne _ _ _ _ (by omega), gm j hj]) (.inr ⟨x + 6, ?_, by rw [Sto.sne _ _ _ _ (by omega), y6]; rfl, by omega, by omega⟩) (fun y hy h => ?_)
      · simp only [joinF]
        rw [zipM_len hl, hN]
      · have hy3 : y ≤ x + 6 := by omega
        exact (go y hy h).set (by simp [ownO, overL, V.over, hy3])
end Pi
