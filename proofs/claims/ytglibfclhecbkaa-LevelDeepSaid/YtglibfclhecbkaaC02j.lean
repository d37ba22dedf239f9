/- Part of the proof: contracts of the program's functions. -/
import Derived.Test.YtglibfclhecbkaaC02h
set_option linter.unusedSimpArgs false
set_option linter.unusedVariables false
namespace Pi
/-! Deep levels, wide levels. -/
theorem FzAt.msT {m m' : Sto} {lo x x' k a n esz : Nat} {cs out : List V} {ro : Bool} (h : FzAt m lo x k cs out) (hm : ∀ j, lo ≤ j → j < x → m' j = m j) (ha : m' a = some (.cells cs ro)) (h1 : lo ≤ a) (h2 : a < x') (hx : x ≤ x') (hl : n * esz ≤ out.length) :
    FzAt m' lo x' (k + 1) [.ms a 0 n esz] [.sl (out.take (n * esz)) n] := by
  intro m2 h3 d hd
  obtain ⟨d, rfl⟩ : ∃ e, d = e + 1 := ⟨d - 1, by omega⟩
  obtain ⟨ids, e1⟩ := h m2 (fun j h4 h5 => (h3 j h4 (by omega)).trans (hm j h4 h5)) d (by omega)
  refine ⟨a :: ids ++ [], ?_⟩
  rw [frzL_cons, frzW_ms, der_s, h3 a h1 h2, ha, derO_cells, e1]
  simp only [Option.bind_some, true_and, List.drop_zero, Nat.zero_add, frzL_nil]
  rw [if_pos (by omega)]
  rfl
def zL : L := .mk 1 0 []
def uL : L := .mk 3 0 [.mk 5 0 [], zL]
def wideS (i : Nat) : L := match i with | 0 => .mk 3 0 [zL, zL] | i + 1 => .mk 3 0 [wideS i, wideS i]
def wide2 (t : L) (i : Nat) : L := match i with | 0 => t | i + 1 => if i % 2 = 0 then .mk 4 0 [.mk 3 0 [wide2 t i, uL], uL] else .mk 3 0 [wide2 t i, uL]
def deepS (k i : Nat) : L := match i with | 0 => zL | i + 1 => if k % 2 = 0 then .mk 2 0 [deepS k i] else .mk 3 0 [deepS k i, zL]
theorem Ok_mk (a : Int) (ha : 0 ≤ a ∧ a ≤ 6) (ks : List L) (hl : ks.length ≤ 2) (h : ∀ x ∈ ks, x.Ok) : (L.mk a 0 ks).Ok := .mk (by omega) (by omega) (by omega) h
theorem zL_ok : zL.Ok := Ok_mk 1 (by omega) [] (by simp) (by simp)
theorem uL_ok : uL.Ok := Ok_mk 3 (by omega) _ (by simp) (by
  intro x hx
  simp at hx
  rcases hx with rfl | rfl
  · exact Ok_mk 5 (by omega) [] (by simp) (by simp)
  · exact zL_ok)
theorem two_ok {a b : L} (ha : a.Ok) (hb : b.Ok) : ∀ x ∈ [a, b], x.Ok := by
  intro x hx
  simp at hx
  rcases hx with rfl | rfl <;> assumption
theorem wideS_ok (i : Nat) : (wideS i).Ok := by
  induction i with
  | zero => exact Ok_mk 3 (by omega) _ (by simp) (two_ok zL_ok zL_ok)
  | succ i ih => exact Ok_mk 3 (by omega) _ (by simp) (two_ok ih ih)
theorem wide2_ok {t : L} (h : t.Ok) (i : Nat) : (wide2 t i).Ok := by
  induction i with
  | zero => exact h
  | succ i ih =>
    have := Ok_mk 3 (by omega) _ (by simp) (two_ok ih uL_ok)
    unfold wide2
    split
    · exact Ok_mk 4 (by omega) _ (by simp) (two_ok this uL_ok)
    · exact this
theorem deepS_ok (k i : Nat) : (deepS k i).Ok := by
  induction i with
  | zero => exact zL_ok
  | succ i ih =>
    unfold deepS
    split
    · exact Ok_mk 2 (by omega) _ (by simp) (by simp; exact ih)
    · exact Ok_mk 3 (by omega) _ (by simp) (two_ok ih zL_ok)
/-- A level lies at 2, in memory below x. -/
def LvIn (m : Sto) (x k : Nat) (t : L) : Prop := ∃ c0 c1 c2, m 2 = some (.cells [c0, c1, c2] false) ∧ FzAt m 3 x k [c0, c1, c2] (cL t)
theorem LvIn.two {m m' : Sto} {x x' k a : Nat} {t u : L} {c0 c1 c2 d0 d1 d2 : V} (c : Int) (h1 : FzAt m 3 x k [c0, c1, c2] (cL t)) (h2 : FzAt m 3 x k [d0, d1, d2] (cL u))
    (hm : ∀ j, 3 ≤ j → j < x → m' j = m j) (ha : m' a = some (.cells [c0, c1, c2, d0, d1, d2] false)) (a1 : 3 ≤ a) (a2 : a < x') (hx : x ≤ x') :
    FzAt m' 3 x' (k + 1) [.i .i64 c, .i .i64 0, .ms a 0 2 3] (cL (.mk c 0 [t, u])) := by
  have z := (h1.app h2).ms (esz := 3) (n := 2) hm ha a1 a2 hx (by simp)
  have z3 := (FzAt.fr (m := m') (lo := 3) (x := x') (k := k + 1) (cs := [.i .i64 c, .i .i64 0]) (by simp)).app z
  rw [cL_at]
  simpa [sV] using z3
theorem LvIn.one {m m' : Sto} {x x' k a : Nat} {t u : L} {c0 c1 c2 d0 d1 d2 : V} (c : Int) (h1 : FzAt m 3 x k [c0, c1, c2] (cL t)) (h2 : FzAt m 3 x k [d0, d1, d2] (cL u))
    (hm : ∀ j, 3 ≤ j → j < x → m' j = m j) (ha : m' a = some (.cells [c0, c1, c2, d0, d1, d2] false)) (a1 : 3 ≤ a) (a2 : a < x') (hx : x ≤ x') :
    FzAt m' 3 x' (k + 1) [.i .i64 c, .i .i64 0, .ms a 0 1 3] (cL (.mk c 0 [t])) := by
  have z := (h1.app h2).msT (esz := 3) (n := 1) hm ha a1 a2 hx (by simp)
  have ht : (cL t ++ cL u).take (1 * 3) = cL t := by rw [List.take_append_of_le_length (by simp), List.take_of_length_le (by simp)]
  rw [ht] at z
  have z3 := (FzAt.fr (m := m') (lo := 3) (x := x') (k := k + 1) (cs := [.i .i64 c, .i .i64 0]) (by simp)).app z
  rw [cL_at]
  simpa [sV] using z3
theorem leaf_at (m : Sto) (x k : Nat) (c : Int) : FzAt m 3 x k [.i .i64 c, .i .i64 0, .ns] (cL (.mk c 0 [])) := fun m2 _ d _ => ⟨[], by simp⟩
theorem uL_at {F : Sto} {x' k a : Nat} (f8 : F a = some (.cells [.i .i64 5, .i .i64 0, .ns, .i .i64 1, .i .i64 0, .ns] false)) (h1 : 3 ≤ a) (h2 : a < x') :
    FzAt F 3 x' (k + 1) [.i .i64 3, .i .i64 0, .ms a 0 2 3] (cL uL) :=
  LvIn.two (m := F) (x := x') 3 (leaf_at F _ k 5) (leaf_at F _ k 1) (fun _ _ _ => rfl) f8 h1 h2 (Nat.le_refl _)
theorem step_odd {F : Sto} {x' k a b : Nat} {t : L} {c0 c1 c2 : V} (hg : FzAt F 3 x' (k + 1) [c0, c1, c2] (cL t))
    (f8 : F a = some (.cells [.i .i64 5, .i .i64 0, .ns, .i .i64 1, .i .i64 0, .ns] false)) (f10 : F b = some (.cells [c0, c1, c2, .i .i64 3, .i .i64 0, .ms a 0 2 3] false))
    (h1 : 3 ≤ a) (h2 : a < x') (h3 : 3 ≤ b) (h4 : b < x') : FzAt F 3 x' (k + 2) [.i .i64 3, .i .i64 0, .ms b 0 2 3] (cL (.mk 3 0 [t, uL])) :=
  LvIn.two (m := F) (x := x') 3 hg (uL_at f8 h1 h2) (fun _ _ _ => rfl) f10 h3 h4 (Nat.le_refl _)
theorem step_even {F : Sto} {x' k a b c : Nat} {t : L} {c0 c1 c2 : V} (hg : FzAt F 3 x' (k + 1) [c0, c1, c2] (cL t))
    (f8 : F a = some (.cells [.i .i64 5, .i .i64 0, .ns, .i .i64 1, .i .i64 0, .ns] false)) (f10 : F b = some (.cells [c0, c1, c2, .i .i64 3, .i .i64 0, .ms a 0 2 3] false))
    (f21 : F c = some (.cells [.i .i64 3, .i .i64 0, .ms b 0 2 3, .i .i64 3, .i .i64 0, .ms a 0 2 3] false))
    (h1 : 3 ≤ a) (h2 : a < x') (h3 : 3 ≤ b) (h4 : b < x') (h5 : 3 ≤ c) (h6 : c < x') : FzAt F 3 x' (k + 3) [.i .i64 4, .i .i64 0, .ms c 0 2 3] (cL (.mk 4 0 [.mk 3 0 [t, uL], uL])) :=
  LvIn.two (m := F) (x := x') 4 (step_odd hg f8 f10 h1 h2 h3 h4) (uL_at f8 h1 h2) (fun _ _ _ => rfl) f21 h5 h6 (Nat.le_refl _)
set_option maxRecDepth 20000 in
set_option maxHeartbeats 2000000 in
theorem law02_LevelDeep.a (n kind : Nat) (wide : Bool) (hn : n < 256) (hk : kind < 256) : Ans ctx law02_LevelDeep.n [.i .u8 n, .b wide, .i .u8 kind] (.b true) := by
  refine ans law02_LevelDeep.f ?_
  have hT : ∀ t : L, t.Ok → Ans ctx law02_told.n [.ag (cL t), .ag (cL t), .sl [.i .i64 4] 1, .sl [] 0] (.b true) := fun t ok => law02_told.a t t ok ok [4] [] (by simp) (by simp)
  have hm : ∀ (a : Nat) (c : Int), (a : Int).tmod c = (a : Int) % c := fun a c => Int.tmod_eq_emod_of_nonneg (by omega)
  obtain ⟨N, e15, N15⟩ : ∃ N : Nat, (n : Int) % 15 = (N : Int) ∧ N < 15 := ⟨n % 15, by omega, by omega⟩
  obtain ⟨M, e6, M6⟩ : ∃ N : Nat, (n : Int) % 6 = (N : Int) ∧ N < 6 := ⟨n % 6, by omega, by omega⟩
  cases wide
  · simp +contextual (disch := omega) [Nat.add_assoc, Int.add_assoc, if_pos, if_neg, -Int.not_lt, -Int.not_le, -Nat.not_lt, -Nat.not_le, -List.length_flatMap, law02_LevelDeep.c, ansK law02_awake.a]
    refine for_w (fun i e m x => e 0 = .i .u8 n ∧ e 2 = .i .u8 kind ∧ e 7 = .p 2 0 ∧ e 10 = .i .i64 i ∧ 3 ≤ x ∧ LvIn m x (i + 1) (deepS kind i)) N ?_ ?_ ?_
    · simp +contextual (disch := omega) [Nat.add_assoc, Int.add_assoc, if_pos, if_neg, -Int.not_lt, -Int.not_le, -Nat.not_lt, -Nat.not_le, -List.length_flatMap]
      exact ⟨_, _, _, rfl, fun m2 _ d _ => ⟨[], by simp [deepS, zL]⟩⟩
    · rintro i e m x hi ⟨g1, g2, g3, g4, g5, c0, c1, c2, g6, g7⟩
      by_cases hk2 : kind % 2 = 0
      · have hk3 : (kind : Int) % 2 = 0 := by omega
        simp +contextual (disch := omega) [Nat.add_assoc, Int.add_assoc, if_pos, if_neg, -Int.not_lt, -Int.not_le, -Nat.not_lt, -Nat.not_le, -List.length_flatMap, law02_LevelDeep.b3, g1, g2, g3, g4, g5, g6, hm, hk3, e15]
        refine ⟨_, _, _, rfl, ?_⟩
        have q := LvIn.one (u := zL) 2 g7 (leaf_at m x (i + 1) 1) (m' := ((m.set (x + 5) (some (PObj.cells [V.i Go.IntKind.i64 2, V.i Go.IntKind.i64 3] false))).set (x + 13) (some (PObj.cells [c0, c1, c2, V.i Go.IntKind.i64 1, V.i Go.IntKind.i64 0, V.ns] false))).set 2 (some (PObj.cells [V.i Go.IntKind.i64 2, V.i Go.IntKind.i64 0, V.ms (x + 13) 0 1 3] false))) (a := x + 13) (x' := x + 24) (by simp +contextual (disch := omega) [Nat.add_assoc, Int.add_assoc, if_pos, if_neg, -Int.not_lt, -Int.not_le, -Nat.not_lt, -Nat.not_le, -List.length_flatMap]) (by simp +contextual (disch := omega) [Nat.add_assoc, Int.add_assoc, if_pos, if_neg, -Int.not_lt, -Int.not_le, -Nat.not_lt, -Nat.not_le, -List.length_flatMap]) (by omega) (by omega) (by omega)
        rw [deepS, if_pos hk2]
        exact q
      · have hk3 : (kind : Int) % 2 = 1 := by omega
        simp +contextual (disch := omega) [Nat.add_assoc, Int.add_assoc, if_pos, if_neg, -Int.not_lt, -Int.not_le, -Nat.not_lt, -Nat.not_le, -List.length_flatMap, law02_LevelDeep.b3, g1, g2, g3, g4, g5, g6, hm, hk3, e15]
        refine ⟨_, _, _, rfl, ?_⟩
        have q := LvIn.two (u := zL) 3 g7 (leaf_at m x (i + 1) 1) (m' := ((m.set (x + 5) (some (PObj.cells [V.i Go.IntKind.i64 2, V.i Go.IntKind.i64 3] false))).set (x + 13) (some (PObj.cells [c0, c1, c2, V.i Go.IntKind.i64 1, V.i Go.IntKind.i64 0, V.ns] false))).set 2 (some (PObj.cells [V.i Go.IntKind.i64 3, V.i Go.IntKind.i64 0, V.ms (x + 13) 0 2 3] false))) (a := x + 13) (x' := x + 24) (by simp +contextual (disch := omega) [Nat.add_assoc, Int.add_assoc, if_pos, if_neg, -Int.not_lt, -Int.not_le, -Nat.not_lt, -Nat.not_le, -List.length_flatMap]) (by simp +contextual (disch := omega) [Nat.add_assoc, Int.add_assoc, if_pos, if_neg, -Int.not_lt, -Int.not_le, -Nat.not_lt, -Nat.not_le, -List.length_flatMap]) (by omega) (by omega) (by omega)
        rw [deepS, if_neg hk2]
        exact q
    · rintro e m x ⟨g1, g2, g3, g4, g5, c0, c1, c2, g6, g7⟩
      obtain ⟨cs, hcs⟩ : ∃ cs : List V, cs = [c0, c1, c2] := ⟨_, rfl⟩
      rw [← hcs] at g6 g7
      have hl : cs.length = 3 := by rw [hcs]; rfl
      clear hcs
      have ht : cs.take 3 = cs := List.take_of_length_le (by omega)
      have hd : cs.drop 3 = [] := List.drop_of_length_le (by omega)
      obtain ⟨ids, q⟩ := (g7.up (m' := m.set (x + 8) (some (.cells [.i .i64 4] false))) (Nat.le_refl _) (Nat.le_refl _) (by simp +contextual (disch := omega) [Nat.add_assoc, Int.add_assoc, if_pos, if_neg, -Int.not_lt, -Int.not_le, -Nat.not_lt, -Nat.not_le, -List.length_flatMap])).at 24 (by omega)
      simp +contextual (disch := omega) [Nat.add_assoc, Int.add_assoc, if_pos, if_neg, -Int.not_lt, -Int.not_le, -Nat.not_lt, -Nat.not_le, -List.length_flatMap, law02_LevelDeep.b3, g1, g2, g3, g4, g5, g6, hm, e15, hl, ht, hd, q, ansK law02_awake.a, ansK (hT _ (deepS_ok kind N))]
  · simp +contextual (disch := omega) [Nat.add_assoc, Int.add_assoc, if_pos, if_neg, -Int.not_lt, -Int.not_le, -Nat.not_lt, -Nat.not_le, -List.length_flatMap, law02_LevelDeep.c]
    refine for_w (fun i e m x => e 0 = .i .u8 n ∧ e 7 = .p 2 0 ∧ e 8 = .i .i64 i ∧ 3 ≤ x ∧ LvIn m x (i + 2) (wideS i)) 4 ?_ ?_ ?_
    · simp +contextual (disch := omega) [Nat.add_assoc, Int.add_assoc, if_pos, if_neg, -Int.not_lt, -Int.not_le, -Nat.not_lt, -Nat.not_le, -List.length_flatMap]
      refine ⟨_, _, _, rfl, ?_⟩
      exact LvIn.two (m := Sto.set (fun x => none) 2 none) (k := 1) (x := 3) 3 (leaf_at _ _ _ 1) (leaf_at _ _ _ 1) (by intro j h1 h2; omega) (by simp +contextual (disch := omega) [Nat.add_assoc, Int.add_assoc, if_pos, if_neg, -Int.not_lt, -Int.not_le, -Nat.not_lt, -Nat.not_le, -List.length_flatMap]) (by omega) (by omega) (by omega)
    · rintro i e m x hi ⟨g1, g3, g4, g5, c0, c1, c2, g6, g7⟩
      simp +contextual (disch := omega) [Nat.add_assoc, Int.add_assoc, if_pos, if_neg, -Int.not_lt, -Int.not_le, -Nat.not_lt, -Nat.not_le, -List.length_flatMap, law02_LevelDeep.b1, g1, g3, g4, g5, g6, hm]
      exact ⟨_, _, _, rfl, LvIn.two 3 g7 g7 (a := x + 4) (by simp +contextual (disch := omega) [Nat.add_assoc, Int.add_assoc, if_pos, if_neg, -Int.not_lt, -Int.not_le, -Nat.not_lt, -Nat.not_le, -List.length_flatMap]) (by simp +contextual (disch := omega) [Nat.add_assoc, Int.add_assoc, if_pos, if_neg, -Int.not_lt, -Int.not_le, -Nat.not_lt, -Nat.not_le, -List.length_flatMap]) (by omega) (by omega) (by omega)⟩
    · rintro e m x ⟨g1, g3, g4, g5, c0, c1, c2, g6, g7⟩
      simp +contextual (disch := omega) [Nat.add_assoc, Int.add_assoc, if_pos, if_neg, -Int.not_lt, -Int.not_le, -Nat.not_lt, -Nat.not_le, -List.length_flatMap, law02_LevelDeep.b1, g1, g3, g4, g5, g6, hm]
      refine for_w (fun i e m x => e 0 = .i .u8 n ∧ e 7 = .p 2 0 ∧ e 9 = .i .i64 i ∧ 3 ≤ x ∧ LvIn m x (2 * i + 6) (wide2 (wideS 4) i)) M ?_ ?_ ?_
      · simp +contextual (disch := omega) [Nat.add_assoc, Int.add_assoc, if_pos, if_neg, -Int.not_lt, -Int.not_le, -Nat.not_lt, -Nat.not_le, -List.length_flatMap]
        exact ⟨g1, g3, c0, c1, c2, g6, by simpa [wide2] using g7.up (by omega) (by omega) (fun _ _ _ => rfl)⟩
      · rintro i e m x hi ⟨g1, g3, g4, g5, c0, c1, c2, g6, g7⟩
        have hd : (i : Int) % 2 = ((i % 2 : Nat) : Int) := by omega
        rcases (by omega : i % 2 = 0 ∨ i % 2 = 1) with hi2 | hi2
        · have hi3 : (i : Int) % 2 = 0 := by omega
          simp +contextual (disch := omega) [Nat.add_assoc, Int.add_assoc, if_pos, if_neg, -Int.not_lt, -Int.not_le, -Nat.not_lt, -Nat.not_le, -List.length_flatMap, law02_LevelDeep.b2, g1, g3, g4, g5, g6, hm, e6, hi3]
          refine ⟨_, _, _, rfl, ?_⟩
          rw [wide2, if_pos hi2]
          exact step_even (k := 2 * i + 5) (x' := x + 27) (a := x + 8) (b := x + 10) (c := x + 21) (g7.up (by omega) (by omega) (by simp +contextual (disch := omega) [Nat.add_assoc, Int.add_assoc, if_pos, if_neg, -Int.not_lt, -Int.not_le, -Nat.not_lt, -Nat.not_le, -List.length_flatMap])) (by simp +contextual (disch := omega) [Nat.add_assoc, Int.add_assoc, if_pos, if_neg, -Int.not_lt, -Int.not_le, -Nat.not_lt, -Nat.not_le, -List.length_flatMap]) (by simp +contextual (disch := omega) [Nat.add_assoc, Int.add_assoc, if_pos, if_neg, -Int.not_lt, -Int.not_le, -Nat.not_lt, -Nat.not_le, -List.length_flatMap]) (by simp +contextual (disch := omega) [Nat.add_assoc, Int.add_assoc, if_pos, if_neg, -Int.not_lt, -Int.not_le, -Nat.not_lt, -Nat.not_le, -List.length_flatMap]) (by omega) (by omega) (by omega) (by omega) (by omega) (by omega)
        · have hi3 : (i : Int) % 2 = 1 := by omega
          simp +contextual (disch := omega) [Nat.add_assoc, Int.add_assoc, if_pos, if_neg, -Int.not_lt, -Int.not_le, -Nat.not_lt, -Nat.not_le, -List.length_flatMap, law02_LevelDeep.b2, g1, g3, g4, g5, g6, hm, e6, hi3]
          refine ⟨_, _, _, rfl, ?_⟩
          rw [wide2, if_neg (by omega)]
          exact (step_odd (k := 2 * i + 5) (x' := x + 19) (a := x + 8) (b := x + 10) (g7.up (by omega) (by omega) (by simp +contextual (disch := omega) [Nat.add_assoc, Int.add_assoc, if_pos, if_neg, -Int.not_lt, -Int.not_le, -Nat.not_lt, -Nat.not_le, -List.length_flatMap])) (by simp +contextual (disch := omega) [Nat.add_assoc, Int.add_assoc, if_pos, if_neg, -Int.not_lt, -Int.not_le, -Nat.not_lt, -Nat.not_le, -List.length_flatMap]) (by simp +contextual (disch := omega) [Nat.add_assoc, Int.add_assoc, if_pos, if_neg, -Int.not_lt, -Int.not_le, -Nat.not_lt, -Nat.not_le, -List.length_flatMap]) (by omega) (by omega) (by omega) (by omega)).up (by omega) (by omega) (fun _ _ _ => rfl)
      · rintro e m x ⟨g1, g3, g4, g5, c0, c1, c2, g6, g7⟩
        obtain ⟨cs, hcs⟩ : ∃ cs : List V, cs = [c0, c1, c2] := ⟨_, rfl⟩
        rw [← hcs] at g6 g7
        have hl : cs.length = 3 := by rw [hcs]; rfl
        clear hcs
        have ht : cs.take 3 = cs := List.take_of_length_le (by omega)
        have hd : cs.drop 3 = [] := List.drop_of_length_le (by omega)
        obtain ⟨ids, q⟩ := (g7.up (m' := m.set (x + 8) (some (.cells [.i .i64 4] false))) (Nat.le_refl _) (Nat.le_refl _) (by simp +contextual (disch := omega) [Nat.add_assoc, Int.add_assoc, if_pos, if_neg, -Int.not_lt, -Int.not_le, -Nat.not_lt, -Nat.not_le, -List.length_flatMap])).at 24 (by omega)
        simp +contextual (disch := omega) [Nat.add_assoc, Int.add_assoc, if_pos, if_neg, -Int.not_lt, -Int.not_le, -Nat.not_lt, -Nat.not_le, -List.length_flatMap, law02_LevelDeep.b2, g1, g3, g4, g5, g6, hm, e6, hl, ht, hd, q, ansK law02_awake.a, ansK (hT _ (wide2_ok (wideS_ok 4) M))]
end Pi
