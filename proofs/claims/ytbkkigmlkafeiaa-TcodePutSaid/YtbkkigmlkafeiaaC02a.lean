/- Where the first thing stands of which something holds, in plain Lean. -/
import Derived.Test.YtbkkigmlkafeiaaCode
import Derived.Test.YtbkkigmlkafeiaaEnc
import Derived.Test.YtbkkigmlkafeiaaFw4
set_option linter.unusedSimpArgs false
set_option linter.unusedVariables false
namespace Pi
mutual
def nodesS (l : L) (most : Int) : Int := match l with
  | .mk _ _ ks => nodesL ks most 1
def nodesL (ks : List L) (most n : Int) : Int := match ks with
  | [] => n
  | k :: r => nodesL r most (if n < most then n + nodesS k (most - n) else n)
end
def nodesF (most n : Int) (k : L) : Int := if n < most then n + nodesS k (most - n) else n
theorem nodesL_eq (ks : List L) (most n : Int) : nodesL ks most n = ks.foldl (nodesF most) n := by
  induction ks generalizing n with
  | nil => simp [nodesL]
  | cons k r ih => simp [nodesL, ih, nodesF]
theorem nodesS_eq (l : L) (most : Int) : nodesS l most = l.kids.foldl (nodesF most) 1 := by
  cases l; simp [nodesS, nodesL_eq]
theorem nodesS_bd (l : L) : ∀ most, 1 ≤ nodesS l most ∧ (nodesS l most ≤ most ∨ nodesS l most = 1) := by
  induction l using L.ind with
  | h l ih =>
    intro most
    rw [nodesS_eq]
    refine fold_inv (P := fun n => 1 ≤ n ∧ (n ≤ most ∨ n = 1)) (fun n k hk hn => ?_) ⟨by omega, .inr rfl⟩
    have := ih k hk (most - n)
    unfold nodesF
    split <;> omega
theorem nodesF_stop {ks : List L} {most n : Int} (h : most ≤ n) : ks.foldl (nodesF most) n = n := by
  induction ks with
  | nil => rfl
  | cons k r ih => simp only [List.foldl_cons]; rw [show nodesF most n k = n by unfold nodesF; rw [if_neg (by omega)]]; exact ih
theorem nodesS_stop (l : L) {i : Nat} {most : Int} (h : most ≤ (l.kids.take i).foldl (nodesF most) 1) : (l.kids.take i).foldl (nodesF most) 1 = nodesS l most := by
  rw [nodesS_eq]
  conv => rhs; rw [← List.take_append_drop i l.kids]
  rw [List.foldl_append, nodesF_stop h]

theorem level_nodes.a (l : L) : l.Ok → ∀ most, -1000 < most → most < 1000 → Ans ctx level_nodes.n [.ag (cL l), .i .i64 most] (.i .i64 (nodesS l most)) := by
  induction l using L.ind with
  | h l ih =>
  intro ok most h1 h2
  have hlen := ok.len
  refine ans level_nodes.f ?_
  simp +contextual (disch := omega) [Nat.add_assoc, Int.add_assoc, if_pos, if_neg, -Int.not_lt, -Int.not_le, -Nat.not_lt, -Nat.not_le, -List.length_flatMap, level_nodes.c]
  refine for_w (fun i e m x => e 1 = .i .i64 most ∧ e 9 = sV cL l.kids ∧ e 10 = .i .i64 l.kids.length ∧ e 11 = .i .i64 i ∧ ∃ n, e 5 = .i .i64 n ∧ (l.kids.take i).foldl (nodesF most) 1 = n ∧ 1 ≤ n ∧ (n ≤ most ∨ n = 1)) l.kids.length ?_ ?_ ?_
  · simp
  · rintro i e m x hi ⟨g1, g2, g3, g4, n, g5, g6, g7, g8⟩
    have hk := ih l.kids[i] (List.getElem_mem hi) (ok.at hi)
    have hb := nodesS_bd l.kids[i] (most - n)
    simp +contextual (disch := omega) [Nat.add_assoc, Int.add_assoc, if_pos, if_neg, -Int.not_lt, -Int.not_le, -Nat.not_lt, -Nat.not_le, -List.length_flatMap, level_nodes.b1, hi, g1, g2, g3, g4, g5, g6, ansK (hk _ _ _), take_fold, nodesF, IfK]
    omega
  · rintro e m x ⟨g1, g2, g3, g4, n, g5, g6, g7, g8⟩
    simp +contextual (disch := omega) [Nat.add_assoc, Int.add_assoc, if_pos, if_neg, -Int.not_lt, -Int.not_le, -Nat.not_lt, -Nat.not_le, -List.length_flatMap, level_nodes.b1, g1, g2, g3, g4, g5]
    simpa [nodesS_eq] using g6.symm
theorem ref02_Nodes.a (l : L) : l.Ok → ∀ most, -1000 < most → most < 1000 → Ans ctx ref02_Nodes.n [.ag (cL l), .i .i64 most] (.i .i64 (nodesS l most)) := by
  induction l using L.ind with
  | h l ih =>
  intro ok most h1 h2
  have hlen := ok.len
  refine ans ref02_Nodes.f ?_
  simp +contextual (disch := omega) [Nat.add_assoc, Int.add_assoc, if_pos, if_neg, -Int.not_lt, -Int.not_le, -Nat.not_lt, -Nat.not_le, -List.length_flatMap, ref02_Nodes.c]
  refine for_w (fun i e m x => e 1 = .i .i64 most ∧ e 2 = .p 0 0 ∧ m 0 = some (.cells (cL l) false) ∧ e 6 = .i .i64 i ∧ ∃ n, e 5 = .i .i64 n ∧ (l.kids.take i).foldl (nodesF most) 1 = n ∧ 1 ≤ n ∧ (n ≤ most ∨ n = 1)) l.kids.length ?_ ?_ ?_
  · simp
  · rintro i e m x hi ⟨g1, g2, g3, g4, n, g5, g6, g7, g8⟩
    have hk := ih l.kids[i] (List.getElem_mem hi) (ok.at hi)
    have hb := nodesS_bd l.kids[i] (most - n)
    have hs := nodesS_stop l (i := i) (most := most)
    rw [g6] at hs
    simp +contextual (disch := omega) [Nat.add_assoc, Int.add_assoc, if_pos, if_neg, -Int.not_lt, -Int.not_le, -Nat.not_lt, -Nat.not_le, -List.length_flatMap, ref02_Nodes.b1, hi, g1, g2, g3, g4, g5, g6, ansK (hk _ _ _), take_fold, nodesF, hs, IfK]
    omega
  · rintro e m x ⟨g1, g2, g3, g4, n, g5, g6, g7, g8⟩
    simp +contextual (disch := omega) [Nat.add_assoc, Int.add_assoc, if_pos, if_neg, -Int.not_lt, -Int.not_le, -Nat.not_lt, -Nat.not_le, -List.length_flatMap, ref02_Nodes.b1, g1, g2, g3, g4, g5]
    simpa [nodesS_eq] using g6.symm
end Pi


set_option linter.unusedSimpArgs false
set_option linter.unusedVariables false
namespace Pi
/-- Where the first thing stands of which it holds; -1: nowhere. -/
def idxS {α : Type} (p : α → Bool) (l : List α) : Int := match l.findIdx? p with | some i => i | none => -1
theorem idx_ge {α : Type} (p : α → Bool) (l : List α) : decide (0 ≤ idxS p l) = l.any p := by
  unfold idxS
  cases h : l.findIdx? p with
  | none =>
    rw [List.findIdx?_eq_none_iff] at h
    simp
    intro x hx
    simpa using h x hx
  | some i =>
    rw [List.findIdx?_eq_some_iff_getElem] at h
    obtain ⟨h1, h2, _⟩ := h
    simp
    exact ⟨l[i], List.getElem_mem h1, h2⟩
theorem idx_take {α : Type} {p : α → Bool} {l : List α} {i : Nat} (hi : i < l.length) (h : (l.take i).all (fun a => !p a) = true) : (p l[i] = true → idxS p l = i) ∧ (p l[i] = false → (l.take (i + 1)).all (fun a => !p a) = true) := by
  refine ⟨fun hp => ?_, fun hp => ?_⟩
  · unfold idxS
    have : l.findIdx? p = some i := by
      rw [List.findIdx?_eq_some_iff_getElem]
      refine ⟨hi, hp, fun j hj => ?_⟩
      have := List.all_eq_true.1 h l[j] (by rw [List.mem_take_iff_getElem]; exact ⟨j, by omega, rfl⟩)
      simpa using this
    rw [this]
  · rw [List.take_succ_eq_append_getElem hi, List.all_append, h]
    simp [hp]
theorem idx_all {α : Type} {p : α → Bool} {l : List α} (h : l.all (fun a => !p a) = true) : idxS p l = -1 := by
  unfold idxS
  have : l.findIdx? p = none := by
    rw [List.findIdx?_eq_none_iff]
    intro x hx
    simpa using List.all_eq_true.1 h x hx
  rw [this]
end Pi


set_option linter.unusedSimpArgs false
set_option linter.unusedVariables false
namespace Pi
theorem slices_IndexFunc_Level.a (l : List L) (g : Nat) (caps : List V) (p : L → Bool) (hg : (ctx.opn g || ctx.frz g) = false) (hpr : ctx.prim g = none) (hc : ∀ D, frzL D caps = some (caps, [])) (h : ∀ k ∈ l, Ans ctx g ((.ag (cL k)) :: caps) (.b (p k))) (hl : l.length ≤ 9223372036854775807) :
    Ans ctx slices_IndexFunc_Level.n [sV cL l, .fn (.func g) [] caps] (.i .i64 (idxS p l)) := by
  refine ans slices_IndexFunc_Level.f ?_
  simp +contextual (disch := omega) [Nat.add_assoc, Int.add_assoc, if_pos, if_neg, -Int.not_lt, -Int.not_le, -Nat.not_lt, -Nat.not_le, -List.length_flatMap, slices_IndexFunc_Level.c]
  refine for_w (fun i e m x => e 0 = sV cL l ∧ e 1 = .fn (.func g) [] caps ∧ e 7 = .i .i64 l.length ∧ e 8 = .i .i64 i ∧ (l.take i).all (fun a => !p a) = true) l.length ?_ ?_ ?_
  · simp +contextual (disch := omega) [Nat.add_assoc, Int.add_assoc, if_pos, if_neg, -Int.not_lt, -Int.not_le, -Nat.not_lt, -Nat.not_le, -List.length_flatMap]
  · rintro i e m x hi ⟨g1, g2, g3, g4, g5⟩
    have hk := h l[i] (List.getElem_mem hi)
    obtain ⟨q1, q2⟩ := idx_take hi g5
    cases hp : p l[i] with
    | true =>
      rw [hp] at hk
      simp +contextual (disch := omega) [Nat.add_assoc, Int.add_assoc, if_pos, if_neg, -Int.not_lt, -Int.not_le, -Nat.not_lt, -Nat.not_le, -List.length_flatMap, slices_IndexFunc_Level.b1, g1, g2, g3, g4, hi, CallX_cl (C := ctx) (g := g) hpr (orF hg).1 (orF hg).2, hc, ansK hk, q1 hp]
    | false =>
      rw [hp] at hk
      simp +contextual (disch := omega) [Nat.add_assoc, Int.add_assoc, if_pos, if_neg, -Int.not_lt, -Int.not_le, -Nat.not_lt, -Nat.not_le, -List.length_flatMap, slices_IndexFunc_Level.b1, g1, g2, g3, g4, hi, CallX_cl (C := ctx) (g := g) hpr (orF hg).1 (orF hg).2, hc, ansK hk, q2 hp]
  · rintro e m x ⟨g1, g2, g3, g4, g5⟩
    rw [List.take_length] at g5
    simp +contextual (disch := omega) [Nat.add_assoc, Int.add_assoc, if_pos, if_neg, -Int.not_lt, -Int.not_le, -Nat.not_lt, -Nat.not_le, -List.length_flatMap, slices_IndexFunc_Level.b1, g1, g2, g3, g4, idx_all g5]
theorem slices_ContainsFunc_Level.a (l : List L) (g : Nat) (caps : List V) (p : L → Bool) (hg : (ctx.opn g || ctx.frz g) = false) (hpr : ctx.prim g = none) (hc : ∀ D, frzL D caps = some (caps, [])) (h : ∀ k ∈ l, Ans ctx g ((.ag (cL k)) :: caps) (.b (p k))) (hl : l.length ≤ 9223372036854775807) :
    Ans ctx slices_ContainsFunc_Level.n [sV cL l, .fn (.func g) [] caps] (.b (l.any p)) := by
  refine ans slices_ContainsFunc_Level.f ?_
  simp +contextual (disch := omega) [Nat.add_assoc, Int.add_assoc, if_pos, if_neg, -Int.not_lt, -Int.not_le, -Nat.not_lt, -Nat.not_le, -List.length_flatMap, slices_ContainsFunc_Level.c, hc, ansK (slices_IndexFunc_Level.a l g caps p hg hpr hc h hl), idx_ge]
end Pi


set_option linter.unusedSimpArgs false
set_option linter.unusedVariables false
namespace Pi
def kidsS (k : Int) : Int := if k = 1 ∨ k = 5 ∨ k = 6 then 0 else if k = 2 then 1 else if k = 3 ∨ k = 4 then 2 else -1
def namedS (l : L) (p q : Int) : Bool := if l.kind = 5 then decide (0 ≤ l.n) && decide (l.n < p) else if l.kind = 6 then decide (0 ≤ l.n) && decide (l.n < q) else decide (l.n = 0)
mutual
def rightS (l : L) (p q d : Int) : Bool := match l with
  | .mk k n ks => decide (0 < d) && decide ((ks.length : Int) = kidsS k) && namedS (.mk k n []) p q && !(oddL ks p q (d - 1))
def oddL (ks : List L) (p q d : Int) : Bool := match ks with
  | [] => false
  | k :: r => !(rightS k p q d) || oddL r p q d
end
theorem oddL_eq (ks : List L) (p q d : Int) : oddL ks p q d = ks.any fun k => !(rightS k p q d) := by
  induction ks with
  | nil => rfl
  | cons k r ih => simp [oddL, ih]
theorem rightS_eq (l : L) (p q d : Int) : rightS l p q d = (decide (0 < d) && decide ((l.kids.length : Int) = kidsS l.kind) && namedS l p q && !(l.kids.any fun k => !(rightS k p q (d - 1)))) := by
  cases l with
  | mk k n ks => simp only [rightS, oddL_eq]; rfl
def RightS (l : L) (p q : Int) : Bool := if p < 0 ∨ 5 < p ∨ q < 0 ∨ 10 < q then false else decide (nodesS l 101 ≤ 100) && rightS l p q 12

theorem level_named.a (l : L) (p q : Int) : Ans ctx level_named.n [.ag (cL l), .i .i64 p, .i .i64 q] (.b (namedS l p q)) := by
  refine ans level_named.f ?_
  simp +contextual (disch := omega) [Nat.add_assoc, Int.add_assoc, if_pos, if_neg, -Int.not_lt, -Int.not_le, -Nat.not_lt, -Nat.not_le, -List.length_flatMap, level_named.c, namedS]
theorem ref02_kids.a (k : Int) : Ans ctx ref02_kids.n [.i .i64 k] (.i .i64 (kidsS k)) := by
  refine ans ref02_kids.f ?_
  simp +contextual (disch := omega) [Nat.add_assoc, Int.add_assoc, if_pos, if_neg, -Int.not_lt, -Int.not_le, -Nat.not_lt, -Nat.not_le, -List.length_flatMap, ref02_kids.c, kidsS]
def kindsM : V := .rm [.i .i64 1, .i .i64 2, .i .i64 3, .i .i64 4, .i .i64 5, .i .i64 6]
  [.ag [.i .i64 0, .fn (.func level_kinds_1.n) [] []], .ag [.i .i64 1, .fn (.func level_kinds_2.n) [] []], .ag [.i .i64 2, .fn (.func level_kinds_3.n) [] []],
   .ag [.i .i64 2, .fn (.func level_kinds_4.n) [] []], .ag [.i .i64 0, .fn (.func level_kinds_5.n) [] []], .ag [.i .i64 0, .fn (.func level_kinds_6.n) [] []]]
set_option maxRecDepth 100000 in
theorem level_kinds.a : Ans ctx level_kinds.n [] kindsM := ans_told (n := 300) (by kernel_rfl)
def isK (k : Int) : Bool := decide (1 ≤ k) && decide (k ≤ 6)
def kidN (k : Int) : Int := if k = 2 then 1 else if k = 3 ∨ k = 4 then 2 else 0
def kindF (k : Int) : V := if k = 1 then .fn (.func level_kinds_1.n) [] [] else if k = 2 then .fn (.func level_kinds_2.n) [] [] else if k = 3 then .fn (.func level_kinds_3.n) [] []
  else if k = 4 then .fn (.func level_kinds_4.n) [] [] else if k = 5 then .fn (.func level_kinds_5.n) [] [] else if k = 6 then .fn (.func level_kinds_6.n) [] [] else .nf
theorem kind_of (k : Int) : k = 1 ∨ k = 2 ∨ k = 3 ∨ k = 4 ∨ k = 5 ∨ k = 6 ∨ (k ≠ 1 ∧ k ≠ 2 ∧ k ≠ 3 ∧ k ≠ 4 ∧ k ≠ 5 ∧ k ≠ 6) := by omega
theorem kinds_lk (m : Sto) (k : Int) : lkV m (.one .i) (.ag [.i .i64 0, .nf]) kindsM (.i .i64 k) true = some (.tu [.ag [.i .i64 (kidN k), kindF k], .b (isK k)], []) := by
  unfold kindsM
  rcases kind_of k with rfl | rfl | rfl | rfl | rfl | rfl | ⟨h1, h2, h3, h4, h5, h6⟩
  all_goals simp [kidN, kindF, isK]
  all_goals simp [*]
  omega
@[simp] theorem refOf_kinds : refOf kindsM = [] := (rfl)
theorem kids_of (k n : Int) (h : 0 ≤ n) : decide (n = kidsS k) = (isK k && decide (n = kidN k)) := by
  rcases kind_of k with rfl | rfl | rfl | rfl | rfl | rfl | ⟨h1, h2, h3, h4, h5, h6⟩
  all_goals simp [kidN, kidsS, isK]
  all_goals simp [*]
  rw [Bool.eq_iff_iff]
  simp
  omega

theorem level_right.a (l : L) : l.Ok → ∀ p q d : Int, (0 ≤ d ∧ d ≤ 100) → Ans ctx level_right.n [.ag (cL l), .i .i64 p, .i .i64 q, .i .i64 d] (.b (rightS l p q d)) := by
  induction l using L.ind with
  | h l ih =>
  intro ok p q d hd
  have hlen := ok.len
  refine ans level_right.f ?_
  rw [rightS_eq, kids_of _ _ (by omega)]
  by_cases h0 : 0 < d
  · have hodd : ∀ k ∈ l.kids, Ans ctx level_right_1.n (.ag (cL k) :: [.rp [.i .i64 p], .rp [.i .i64 q], .rp [.i .i64 d]]) (.b (!(rightS k p q (d - 1)))) := by
      intro k hk
      refine ans level_right_1.f ?_
      simp +contextual (disch := omega) [Nat.add_assoc, Int.add_assoc, if_pos, if_neg, -Int.not_lt, -Int.not_le, -Nat.not_lt, -Nat.not_le, -List.length_flatMap, level_right_1.c, ansK (ih k hk (ok.kid hk) p q (d - 1) (by omega))]
    have hc := slices_ContainsFunc_Level.a l.kids level_right_1.n [.rp [.i .i64 p], .rp [.i .i64 q], .rp [.i .i64 d]] (fun k => !(rightS k p q (d - 1))) rfl rfl (by intro D; simp) hodd hlen
    generalize (l.kids.any fun k => !(rightS k p q (d - 1))) = A at hc
    generalize hN : (l.kids.length : Int) = N
    simp +contextual (disch := omega) [Nat.add_assoc, Int.add_assoc, if_pos, if_neg, -Int.not_lt, -Int.not_le, -Nat.not_lt, -Nat.not_le, -List.length_flatMap, level_right.c, h0, ansK level_kinds.a, kinds_lk, ansK (level_named.a _ _ _), ansK hc, hN]
  · simp +contextual (disch := omega) [Nat.add_assoc, Int.add_assoc, if_pos, if_neg, -Int.not_lt, -Int.not_le, -Nat.not_lt, -Nat.not_le, -List.length_flatMap, level_right.c, h0, ansK level_kinds.a, kinds_lk]

theorem ref02_right.a (l : L) : l.Ok → ∀ p q d : Int, (0 ≤ d ∧ d ≤ 100) → Ans ctx ref02_right.n [.ag (cL l), .i .i64 p, .i .i64 q, .i .i64 d] (.b (rightS l p q d)) := by
  induction l using L.ind with
  | h l ih =>
  intro ok p q d hd
  have hlen := ok.len
  refine ans ref02_right.f ?_
  rw [rightS_eq]
  have hk0 : (l.kids.length : Int) = kidsS l.kind → (l.kind = 5 ∨ l.kind = 6) → l.kids = [] := by
    intro h1 h2
    rcases h2 with h2 | h2 <;> (rw [h2] at h1; simp [kidsS] at h1; exact h1)
  simp +contextual (disch := omega) [Nat.add_assoc, Int.add_assoc, if_pos, if_neg, -Int.not_lt, -Int.not_le, -Nat.not_lt, -Nat.not_le, -List.length_flatMap, ref02_right.c, ansK (ref02_kids.a _), namedS]
  refine ⟨fun h1 h2 => by omega, fun h1 h2 => ⟨fun h3 h4 => ?_, fun h3 => ⟨fun h4 h5 => ?_, fun h4 => ?_⟩⟩⟩
  · rw [hk0 h2 (.inl h3)]
    simp
    omega
  · rw [hk0 h2 (.inr h4)]
    simp
    omega
  · rw [← h2]
    have hd0 : decide (0 < d) = true := by simp; omega
    refine for_w (fun i e m x => e 1 = .i .i64 p ∧ e 2 = .i .i64 q ∧ e 3 = .i .i64 d ∧ e 4 = .p 0 0 ∧ m 0 = some (.cells (cL l) false) ∧ e 9 = .i .i64 i ∧ (l.kids.take i).any (fun k => !rightS k p q (d - 1)) = false) l.kids.length ?_ ?_ ?_
    · simp +contextual (disch := omega) [Nat.add_assoc, Int.add_assoc, if_pos, if_neg, -Int.not_lt, -Int.not_le, -Nat.not_lt, -Nat.not_le, -List.length_flatMap]
    · rintro i e m x hi ⟨g1, g2, g3, g4, g5, g6, g7⟩
      have hr := ih l.kids[i] (List.getElem_mem hi) (ok.at hi) p q (d - 1) (by omega)
      have ha : (l.kids.take (i + 1)).any (fun k => !rightS k p q (d - 1)) = !(rightS l.kids[i] p q (d - 1)) := by
        rw [List.take_succ_eq_append_getElem hi, List.any_append, g7]
        simp
      have hb : rightS l.kids[i] p q (d - 1) = false → l.kids.any (fun k => !rightS k p q (d - 1)) = true := fun h => by
        rw [List.any_eq_true]
        exact ⟨_, List.getElem_mem hi, by simp [h]⟩
      cases hc : rightS l.kids[i] p q (d - 1) with
      | true =>
        rw [hc] at hr ha
        simp +contextual (disch := omega) [Nat.add_assoc, Int.add_assoc, if_pos, if_neg, -Int.not_lt, -Int.not_le, -Nat.not_lt, -Nat.not_le, -List.length_flatMap, ref02_right.b1, g1, g2, g3, g4, g5, g6, hi, ansK hr, ha]
      | false =>
        rw [hc] at hr
        simp +contextual (disch := omega) [Nat.add_assoc, Int.add_assoc, if_pos, if_neg, -Int.not_lt, -Int.not_le, -Nat.not_lt, -Nat.not_le, -List.length_flatMap, ref02_right.b1, g1, g2, g3, g4, g5, g6, hi, ansK hr, hb hc]
    · rintro e m x ⟨g1, g2, g3, g4, g5, g6, g7⟩
      rw [List.take_length] at g7
      simp +contextual (disch := omega) [Nat.add_assoc, Int.add_assoc, if_pos, if_neg, -Int.not_lt, -Int.not_le, -Nat.not_lt, -Nat.not_le, -List.length_flatMap, ref02_right.b1, g1, g2, g3, g4, g5, g6, g7, hd0]
theorem level_Right.a (l : L) (ok : l.Ok) (p q : Int) : Ans ctx level_Right.n [.ag (cL l), .i .i64 p, .i .i64 q] (.b (RightS l p q)) := by
  refine ans level_Right.f ?_
  simp +contextual (disch := omega) [Nat.add_assoc, Int.add_assoc, if_pos, if_neg, -Int.not_lt, -Int.not_le, -Nat.not_lt, -Nat.not_le, -List.length_flatMap, level_Right.c, RightS, ansK (level_nodes.a l ok _ _ _), ansK (level_right.a l ok _ _ _ _)]
theorem ref02_Right.a (l : L) (ok : l.Ok) (p q : Int) : Ans ctx ref02_Right.n [.ag (cL l), .i .i64 p, .i .i64 q] (.b (RightS l p q)) := by
  refine ans ref02_Right.f ?_
  unfold RightS
  by_cases h : p < 0 ∨ 5 < p ∨ q < 0 ∨ 10 < q
  · rw [if_pos h]
    simp +contextual (disch := omega) [Nat.add_assoc, Int.add_assoc, if_pos, if_neg, -Int.not_lt, -Int.not_le, -Nat.not_lt, -Nat.not_le, -List.length_flatMap, ref02_Right.c]
  · rw [if_neg h]
    simp +contextual (disch := omega) [Nat.add_assoc, Int.add_assoc, if_pos, if_neg, -Int.not_lt, -Int.not_le, -Nat.not_lt, -Nat.not_le, -List.length_flatMap, ref02_Right.c, ansK (ref02_Nodes.a l ok _ _ _), ansK (ref02_right.a l ok _ _ _ _)]
end Pi


set_option linter.unusedSimpArgs false
set_option linter.unusedVariables false
namespace Pi
mutual
def partsT (l : Tm) (most : Int) : Int := match l with
  | .mk _ _ _ ks => partsL ks most 1
def partsL (ks : List Tm) (most n : Int) : Int := match ks with
  | [] => n
  | k :: r => partsL r most (if n < most then n + partsT k (most - n) else n)
end
def partsF (most n : Int) (k : Tm) : Int := if n < most then n + partsT k (most - n) else n
theorem partsL_eq (ks : List Tm) (most n : Int) : partsL ks most n = ks.foldl (partsF most) n := by
  induction ks generalizing n with
  | nil => simp [partsL]
  | cons k r ih => simp [partsL, ih, partsF]
theorem partsT_eq (l : Tm) (most : Int) : partsT l most = l.kids.foldl (partsF most) 1 := by
  cases l; simp [partsT, partsL_eq]
theorem partsT_bd (l : Tm) : ∀ most, 1 ≤ partsT l most ∧ (partsT l most ≤ most ∨ partsT l most = 1) := by
  induction l using Tm.ind with
  | h l ih =>
    intro most
    rw [partsT_eq]
    refine fold_inv (P := fun n => 1 ≤ n ∧ (n ≤ most ∨ n = 1)) (fun n k hk hn => ?_) ⟨by omega, .inr rfl⟩
    have := ih k hk (most - n)
    unfold partsF
    split <;> omega
theorem partsF_stop {ks : List Tm} {most n : Int} (h : most ≤ n) : ks.foldl (partsF most) n = n := by
  induction ks with
  | nil => rfl
  | cons k r ih => simp only [List.foldl_cons]; rw [show partsF most n k = n by unfold partsF; rw [if_neg (by omega)]]; exact ih
theorem partsT_stop (l : Tm) {i : Nat} {most : Int} (h : most ≤ (l.kids.take i).foldl (partsF most) 1) : (l.kids.take i).foldl (partsF most) 1 = partsT l most := by
  rw [partsT_eq]
  conv => rhs; rw [← List.take_append_drop i l.kids]
  rw [List.foldl_append, partsF_stop h]
theorem term_parts.a (l : Tm) : l.Ok → ∀ most, -2000 < most → most < 2000 → Ans ctx term_parts.n [.ag (cT l), .i .i64 most] (.i .i64 (partsT l most)) := by
  induction l using Tm.ind with
  | h l ih =>
  intro ok most h1 h2
  have hlen := ok.len
  refine ans term_parts.f ?_
  simp +contextual (disch := omega) [Nat.add_assoc, Int.add_assoc, if_pos, if_neg, -Int.not_lt, -Int.not_le, -Nat.not_lt, -Nat.not_le, -List.length_flatMap, term_parts.c]
  refine for_w (fun i e m x => e 1 = .i .i64 most ∧ e 9 = sV cT l.kids ∧ e 10 = .i .i64 l.kids.length ∧ e 11 = .i .i64 i ∧ ∃ n, e 5 = .i .i64 n ∧ (l.kids.take i).foldl (partsF most) 1 = n ∧ 1 ≤ n ∧ (n ≤ most ∨ n = 1)) l.kids.length ?_ ?_ ?_
  · simp
  · rintro i e m x hi ⟨g1, g2, g3, g4, n, g5, g6, g7, g8⟩
    have hk := ih l.kids[i] (List.getElem_mem hi) (ok.at hi)
    have hb := partsT_bd l.kids[i] (most - n)
    simp +contextual (disch := omega) [Nat.add_assoc, Int.add_assoc, if_pos, if_neg, -Int.not_lt, -Int.not_le, -Nat.not_lt, -Nat.not_le, -List.length_flatMap, term_parts.b1, hi, g1, g2, g3, g4, g5, g6, ansK (hk _ _ _), take_fold, partsF, IfK]
    omega
  · rintro e m x ⟨g1, g2, g3, g4, n, g5, g6, g7, g8⟩
    simp +contextual (disch := omega) [Nat.add_assoc, Int.add_assoc, if_pos, if_neg, -Int.not_lt, -Int.not_le, -Nat.not_lt, -Nat.not_le, -List.length_flatMap, term_parts.b1, g1, g2, g3, g4, g5]
    simpa [partsT_eq] using g6.symm
theorem ref13_Parts.a (l : Tm) : l.Ok → ∀ most, -2000 < most → most < 2000 → Ans ctx ref13_Parts.n [.ag (cT l), .i .i64 most] (.i .i64 (partsT l most)) := by
  induction l using Tm.ind with
  | h l ih =>
  intro ok most h1 h2
  have hlen := ok.len
  refine ans ref13_Parts.f ?_
  simp +contextual (disch := omega) [Nat.add_assoc, Int.add_assoc, if_pos, if_neg, -Int.not_lt, -Int.not_le, -Nat.not_lt, -Nat.not_le, -List.length_flatMap, ref13_Parts.c]
  refine for_w (fun i e m x => e 1 = .i .i64 most ∧ e 2 = .p 0 0 ∧ m 0 = some (.cells (cT l) false) ∧ e 6 = .i .i64 i ∧ ∃ n, e 5 = .i .i64 n ∧ (l.kids.take i).foldl (partsF most) 1 = n ∧ 1 ≤ n ∧ (n ≤ most ∨ n = 1)) l.kids.length ?_ ?_ ?_
  · simp
  · rintro i e m x hi ⟨g1, g2, g3, g4, n, g5, g6, g7, g8⟩
    have hk := ih l.kids[i] (List.getElem_mem hi) (ok.at hi)
    have hb := partsT_bd l.kids[i] (most - n)
    have hs := partsT_stop l (i := i) (most := most)
    rw [g6] at hs
    simp +contextual (disch := omega) [Nat.add_assoc, Int.add_assoc, if_pos, if_neg, -Int.not_lt, -Int.not_le, -Nat.not_lt, -Nat.not_le, -List.length_flatMap, ref13_Parts.b1, hi, g1, g2, g3, g4, g5, g6, ansK (hk _ _ _), take_fold, partsF, hs, IfK]
    omega
  · rintro e m x ⟨g1, g2, g3, g4, n, g5, g6, g7, g8⟩
    simp +contextual (disch := omega) [Nat.add_assoc, Int.add_assoc, if_pos, if_neg, -Int.not_lt, -Int.not_le, -Nat.not_lt, -Nat.not_le, -List.length_flatMap, ref13_Parts.b1, g1, g2, g3, g4, g5]
    simpa [partsT_eq] using g6.symm
def kidsT (k : Int) : Int := if k = 1 ∨ k = 2 ∨ k = 3 then 0 else if k = 4 ∨ k = 5 ∨ k = 6 then 2 else if k = 7 then 3 else -1
def bindT (k : Int) (i : Nat) : Int := if ((k = 5 ∨ k = 6) ∧ i = 1) ∨ (k = 7 ∧ i = 2) then 1 else 0
def namedT (t : Tm) (v : Int) : Bool :=
  if t.kind = 1 then decide (0 ≤ t.n) && decide (t.n < v) && decide (t.lvls.length = 0)
  else if t.kind = 3 then decide (0 ≤ t.n) && decide (t.n < 20) && decide (t.lvls.length ≤ 5)
  else if t.kind = 2 then decide (t.n = 0) && decide (t.lvls.length = 1)
  else decide (t.n = 0) && decide (t.lvls.length = 0)
mutual
def rightT (t : Tm) (v p q d : Int) : Bool := match t with
  | .mk k n ls ks => decide (0 < d) && decide ((ks.length : Int) = kidsT k) && namedT (.mk k n ls []) v && !(ls.any fun l => !(RightS l p q)) && rightTs k ks 0 v p q (d - 1)
def rightTs (k : Int) (ks : List Tm) (i : Nat) (v p q d : Int) : Bool := match ks with
  | [] => true
  | x :: r => rightT x (v + bindT k i) p q d && rightTs k r (i + 1) v p q d
end
theorem rightT_eq (t : Tm) (v p q d : Int) : rightT t v p q d = (decide (0 < d) && decide ((t.kids.length : Int) = kidsT t.kind) && namedT t v && !(t.lvls.any fun l => !(RightS l p q)) && rightTs t.kind t.kids 0 v p q (d - 1)) := by
  cases t with
  | mk k n ls ks => simp only [rightT]; rfl
theorem rightTs_true {k : Int} {v p q d : Int} : ∀ {ks : List Tm} {i : Nat}, rightTs k ks i v p q d = true ↔ ∀ (j : Nat) (h : j < ks.length), rightT ks[j] (v + bindT k (i + j)) p q d = true
  | [], i => by simp [rightTs]
  | x :: r, i => by
    simp only [rightTs, Bool.and_eq_true]
    rw [rightTs_true]
    constructor
    · rintro ⟨h1, h2⟩ j hj
      cases j with
      | zero => exact h1
      | succ j => have := h2 j (by simpa using hj); rw [show i + 1 + j = i + (j + 1) by omega] at this; simpa using this
    · intro h
      refine ⟨h 0 (by simp), fun j hj => ?_⟩
      have := h (j + 1) (by simpa using hj)
      rw [show i + 1 + j = i + (j + 1) by omega]
      simpa using this
theorem rightTs_false {k : Int} {v p q d : Int} {ks : List Tm} {j : Nat} (h : j < ks.length) (hf : rightT ks[j] (v + bindT k j) p q d = false) : rightTs k ks 0 v p q d = false := by
  rw [Bool.eq_false_iff]
  intro hr
  have := rightTs_true.1 hr j h
  rw [Nat.zero_add, hf] at this
  cases this
def RightT (t : Tm) (v p q : Int) : Bool := if v < 0 ∨ v > 1000 ∨ p < 0 ∨ p > 5 ∨ q < 0 ∨ q > 10 then false else decide (partsT t 601 ≤ 600) && rightT t v p q 30
def shapesM : V := .rm [.i .i64 1, .i .i64 2, .i .i64 3, .i .i64 4, .i .i64 5, .i .i64 6, .i .i64 7]
  [.ag [.i .i64 0, .i .i64 (-1)], .ag [.i .i64 0, .i .i64 (-1)], .ag [.i .i64 0, .i .i64 (-1)], .ag [.i .i64 2, .i .i64 (-1)], .ag [.i .i64 2, .i .i64 1], .ag [.i .i64 2, .i .i64 1], .ag [.i .i64 3, .i .i64 2]]
set_option maxRecDepth 100000 in
theorem term_shapes.a : Ans ctx term_shapes.n [] shapesM := ans_told (n := 300) (by kernel_rfl)
@[simp] theorem refOf_shapes : refOf shapesM = [] := (rfl)
def shK (k : Int) : Int := if k = 4 ∨ k = 5 ∨ k = 6 then 2 else if k = 7 then 3 else 0
def shB (k : Int) : Int := if k = 1 ∨ k = 2 ∨ k = 3 ∨ k = 4 then -1 else if k = 5 ∨ k = 6 then 1 else if k = 7 then 2 else 0
def isT (k : Int) : Bool := decide (1 ≤ k) && decide (k ≤ 7)
theorem kind7 (k : Int) : k = 1 ∨ k = 2 ∨ k = 3 ∨ k = 4 ∨ k = 5 ∨ k = 6 ∨ k = 7 ∨ (k ≠ 1 ∧ k ≠ 2 ∧ k ≠ 3 ∧ k ≠ 4 ∧ k ≠ 5 ∧ k ≠ 6 ∧ k ≠ 7) := by omega
theorem shapes_lk (m : Sto) (k : Int) : lkV m (.one .i) (.ag [.i .i64 0, .i .i64 0]) shapesM (.i .i64 k) true = some (.tu [.ag [.i .i64 (shK k), .i .i64 (shB k)], .b (isT k)], []) := by
  unfold shapesM
  rcases kind7 k with rfl | rfl | rfl | rfl | rfl | rfl | rfl | ⟨h1, h2, h3, h4, h5, h6, h7⟩
  all_goals simp [shK, shB, isT]
  all_goals simp [*]
  omega
theorem shapes_lk0 (m : Sto) (k : Int) : lkV m (.one .i) (.ag [.i .i64 0, .i .i64 0]) shapesM (.i .i64 k) false = some (.ag [.i .i64 (shK k), .i .i64 (shB k)], []) := by
  unfold shapesM
  rcases kind7 k with rfl | rfl | rfl | rfl | rfl | rfl | rfl | ⟨h1, h2, h3, h4, h5, h6, h7⟩
  all_goals simp [shK, shB]
  all_goals (try simp [*])
theorem term_below.a (t : Tm) (i : Nat) (hk : isT t.kind = true) (hi : i ≤ 9223372036854775807) : Ans ctx term_below.n [.ag (cT t), .i .i64 i] (.i .i64 (bindT t.kind i)) := by
  refine ans term_below.f ?_
  have e : bindT t.kind i = if shB t.kind = i then 1 else 0 := by
    unfold bindT shB
    unfold isT at hk
    generalize t.kind = k at *
    rcases kind7 k with rfl | rfl | rfl | rfl | rfl | rfl | rfl | ⟨h1, h2, h3, h4, h5, h6, h7⟩
    all_goals (try simp)
    all_goals (try omega)
    all_goals (simp at hk; omega)
  rw [e]
  by_cases h : shB t.kind = i
  · simp +contextual (disch := omega) [Nat.add_assoc, Int.add_assoc, if_pos, if_neg, -Int.not_lt, -Int.not_le, -Nat.not_lt, -Nat.not_le, -List.length_flatMap, term_below.c, ansK term_shapes.a, shapes_lk0, h]
  · simp +contextual (disch := omega) [Nat.add_assoc, Int.add_assoc, if_pos, if_neg, -Int.not_lt, -Int.not_le, -Nat.not_lt, -Nat.not_le, -List.length_flatMap, term_below.c, ansK term_shapes.a, shapes_lk0, h]
theorem term_room_named.a (t : Tm) (ok : t.Ok) (v p q : Int) : Ans ctx term_room_named.n [.ag [.i .i64 v, .i .i64 p, .i .i64 q], .ag (cT t)] (.b (namedT t v)) := by
  refine ans term_room_named.f ?_
  have hl := ok.llen
  unfold namedT
  by_cases h1 : t.kind = 1
  · simp +contextual (disch := omega) [Nat.add_assoc, Int.add_assoc, if_pos, if_neg, -Int.not_lt, -Int.not_le, -Nat.not_lt, -Nat.not_le, -List.length_flatMap, term_room_named.c, h1]
  · by_cases h3 : t.kind = 3
    · simp +contextual (disch := omega) [Nat.add_assoc, Int.add_assoc, if_pos, if_neg, -Int.not_lt, -Int.not_le, -Nat.not_lt, -Nat.not_le, -List.length_flatMap, term_room_named.c, h1, h3]
      intros
      omega
    · by_cases h2 : t.kind = 2
      · simp +contextual (disch := omega) [Nat.add_assoc, Int.add_assoc, if_pos, if_neg, -Int.not_lt, -Int.not_le, -Nat.not_lt, -Nat.not_le, -List.length_flatMap, term_room_named.c, h1, h2, h3]
        intros
        omega
      · simp +contextual (disch := omega) [Nat.add_assoc, Int.add_assoc, if_pos, if_neg, -Int.not_lt, -Int.not_le, -Nat.not_lt, -Nat.not_le, -List.length_flatMap, term_room_named.c, h1, h2, h3]
theorem rightT_kids {t : Tm} {v p q d : Int} : (decide ((t.kids.length : Int) = kidsT t.kind)) = (isT t.kind && decide ((t.kids.length : Int) = shK t.kind)) := by
  unfold kidsT isT shK
  generalize t.kind = k
  generalize hn : (t.kids.length : Int) = n
  have h0 : 0 ≤ n := by omega
  rcases kind7 k with rfl | rfl | rfl | rfl | rfl | rfl | rfl | ⟨h1, h2, h3, h4, h5, h6, h7⟩
  all_goals (try simp)
  all_goals (try simp [*])
  rw [Bool.eq_iff_iff]
  simp
  omega
set_option maxHeartbeats 4000000 in
theorem term_room_right.a (t : Tm) : t.Ok → ∀ v p q d : Int, (0 ≤ d ∧ d ≤ 100) → (0 ≤ v ∧ v + d ≤ 2000) → Ans ctx term_room_right.n [.ag [.i .i64 v, .i .i64 p, .i .i64 q], .ag (cT t), .i .i64 d] (.b (rightT t v p q d)) := by
  induction t using Tm.ind with
  | h t ih =>
  intro ok v p q d hd hv
  have hlen := ok.len
  refine ans term_room_right.f ?_
  rw [rightT_eq, rightT_kids (v := v) (p := p) (q := q) (d := d)]
  have hodd : ∀ k ∈ t.lvls, Ans ctx term_room_right_1.n (.ag (cL k) :: [.rp [.i .i64 v, .i .i64 p, .i .i64 q]]) (.b (!(RightS k p q))) := by
    intro k hk
    refine ans term_room_right_1.f ?_
    simp +contextual (disch := omega) [Nat.add_assoc, Int.add_assoc, if_pos, if_neg, -Int.not_lt, -Int.not_le, -Nat.not_lt, -Nat.not_le, -List.length_flatMap, term_room_right_1.c, ansK (level_Right.a k (ok.lvl hk) p q)]
  have hc := slices_ContainsFunc_Level.a t.lvls term_room_right_1.n [.rp [.i .i64 v, .i .i64 p, .i .i64 q]] (fun k => !(RightS k p q)) rfl rfl (by intro D; simp) hodd ok.llen
  generalize (t.lvls.any fun k => !(RightS k p q)) = A at hc ⊢
  by_cases h0 : 0 < d
  · have h0' : ¬ d = 0 := by omega
    cases hi : isT t.kind with
    | false =>
      simp +contextual (disch := omega) [Nat.add_assoc, Int.add_assoc, if_pos, if_neg, -Int.not_lt, -Int.not_le, -Nat.not_lt, -Nat.not_le, -List.length_flatMap, term_room_right.c, ansK term_shapes.a, shapes_lk, h0, h0', hi]
    | true =>
      by_cases hk : (t.kids.length : Int) = shK t.kind
      · simp +contextual (disch := omega) [Nat.add_assoc, Int.add_assoc, if_pos, if_neg, -Int.not_lt, -Int.not_le, -Nat.not_lt, -Nat.not_le, -List.length_flatMap, term_room_right.c, ansK term_shapes.a, shapes_lk, h0, h0', hi, hk, ansK (term_room_named.a t ok _ _ _), ansK hc]
        intro _ _
        refine for_w (fun i e m x => e 2 = .i .i64 d ∧ e 3 = .p 0 0 ∧ e 4 = .p 1 0 ∧ m 0 = some (.cells [.i .i64 v, .i .i64 p, .i .i64 q] false) ∧ m 1 = some (.cells (cT t) false) ∧ e 48 = sV cT t.kids ∧ e 49 = .i .i64 t.kids.length ∧ e 50 = .i .i64 i ∧ 2 ≤ x ∧ ∀ (j : Nat) (h : j < t.kids.length), j < i → rightT t.kids[j] (v + bindT t.kind j) p q (d - 1) = true) t.kids.length ?_ ?_ ?_
        · simp +contextual (disch := omega) [Nat.add_assoc, Int.add_assoc, if_pos, if_neg, -Int.not_lt, -Int.not_le, -Nat.not_lt, -Nat.not_le, -List.length_flatMap, hk]
        · rintro i e m x hi2 ⟨e2, e3, e4, m0, m1, e48, e49, e50, hx, hR⟩
          have hb : bindT t.kind i = 0 ∨ bindT t.kind i = 1 := by unfold bindT; split <;> simp
          have hv2 : 0 ≤ v + bindT t.kind i ∧ v + bindT t.kind i + (d - 1) ≤ 2000 := by omega
          have hr := ih t.kids[i] (List.getElem_mem hi2) (ok.at hi2) (v + bindT t.kind i) p q (d - 1) (by omega) hv2
          have hB := term_below.a t i hi (by omega)
          cases hc2 : rightT t.kids[i] (v + bindT t.kind i) p q (d - 1) with
          | true =>
            rw [hc2] at hr
            simp +contextual (disch := omega) [Nat.add_assoc, Int.add_assoc, if_pos, if_neg, -Int.not_lt, -Int.not_le, -Nat.not_lt, -Nat.not_le, -List.length_flatMap, term_room_right.b1, e2, e3, e4, m0, m1, e48, e49, e50, hi2, ansK hB, ansK hr]
            intro j h1 h2
            by_cases hj : j = i
            · subst hj; exact hc2
            · exact hR j h1 (by omega)
          | false =>
            rw [hc2] at hr
            simp +contextual (disch := omega) [Nat.add_assoc, Int.add_assoc, if_pos, if_neg, -Int.not_lt, -Int.not_le, -Nat.not_lt, -Nat.not_le, -List.length_flatMap, term_room_right.b1, e2, e3, e4, m0, m1, e48, e49, e50, hi2, ansK hB, ansK hr, rightTs_false hi2 hc2]
        · rintro e m x ⟨e2, e3, e4, m0, m1, e48, e49, e50, hx, hR⟩
          have : rightTs t.kind t.kids 0 v p q (d - 1) = true := rightTs_true.2 (fun j h => by rw [Nat.zero_add]; exact hR j h h)
          simp +contextual (disch := omega) [Nat.add_assoc, Int.add_assoc, if_pos, if_neg, -Int.not_lt, -Int.not_le, -Nat.not_lt, -Nat.not_le, -List.length_flatMap, term_room_right.b1, e2, e3, e4, m0, m1, e48, e49, e50, this]
      · simp +contextual (disch := omega) [Nat.add_assoc, Int.add_assoc, if_pos, if_neg, -Int.not_lt, -Int.not_le, -Nat.not_lt, -Nat.not_le, -List.length_flatMap, term_room_right.c, ansK term_shapes.a, shapes_lk, h0, h0', hi, hk]
  · have h0' : d = 0 := by omega
    simp +contextual (disch := omega) [Nat.add_assoc, Int.add_assoc, if_pos, if_neg, -Int.not_lt, -Int.not_le, -Nat.not_lt, -Nat.not_le, -List.length_flatMap, term_room_right.c, ansK term_shapes.a, shapes_lk, h0, h0']
theorem term_room_fits.a (t : Tm) (ok : t.Ok) (v p q : Int) (hv : 0 ≤ v ∧ v ≤ 1000) : Ans ctx term_room_fits.n [.ag [.i .i64 v, .i .i64 p, .i .i64 q], .ag (cT t)] (.b (decide (partsT t 601 ≤ 600) && rightT t v p q 30)) := by
  refine ans term_room_fits.f ?_
  simp +contextual (disch := omega) [Nat.add_assoc, Int.add_assoc, if_pos, if_neg, -Int.not_lt, -Int.not_le, -Nat.not_lt, -Nat.not_le, -List.length_flatMap, term_room_fits.c, ansK (term_parts.a t ok _ _ _), ansK (term_room_right.a t ok _ _ _ _ _ _)]
theorem term_Right.a (t : Tm) (ok : t.Ok) (v p q : Int) : Ans ctx term_Right.n [.ag (cT t), .i .i64 v, .i .i64 p, .i .i64 q] (.b (RightT t v p q)) := by
  refine ans term_Right.f ?_
  unfold RightT
  by_cases h : v < 0 ∨ v > 1000 ∨ p < 0 ∨ p > 5 ∨ q < 0 ∨ q > 10
  · rw [if_pos h]
    simp +contextual (disch := omega) [Nat.add_assoc, Int.add_assoc, if_pos, if_neg, -Int.not_lt, -Int.not_le, -Nat.not_lt, -Nat.not_le, -List.length_flatMap, term_Right.c]
  · rw [if_neg h]
    simp +contextual (disch := omega) [Nat.add_assoc, Int.add_assoc, if_pos, if_neg, -Int.not_lt, -Int.not_le, -Nat.not_lt, -Nat.not_le, -List.length_flatMap, term_Right.c, ansK (term_room_fits.a t ok _ _ _ _)]
end Pi


set_option linter.unusedSimpArgs false
set_option linter.unusedVariables false
namespace Pi
/-- A number's digits of seven bits, the least first; all but the last one have 128 more. -/
def digs (n : Nat) : List Nat := if h : n < 128 then [n] else (n % 128 + 128) :: digs (n / 128)
termination_by n
decreasing_by omega
theorem digs_len {n : Nat} : ∀ k, n < 128 ^ (k + 1) → (digs n).length ≤ k + 1 := by
  intro k
  induction k generalizing n with
  | zero => intro h; unfold digs; simp at h; simp [h]
  | succ k ih =>
    intro h
    unfold digs
    split
    · simp
    · simp only [List.length_cons]
      have := ih (n := n / 128) (by rw [Nat.div_lt_iff_lt_mul (by omega)]; rw [← Nat.pow_succ]; exact h)
      omega
/-- What Put answers. -/
def putS (n : Int) : V := if n < 0 ∨ n > 1099511627776 then .tu [.s (bs []), .i .i64 1] else .tu [.s (bs (digs n.toNat)), .i .i64 0]

theorem digs_ge {n : Nat} (h : 128 ≤ n) : digs n = (n % 128 + 128) :: digs (n / 128) := by rw [digs, dif_neg (by omega)]
theorem digs_lt {n : Nat} (h : n < 128) : digs n = [n] := by rw [digs, dif_pos h]

theorem ref01_Put.a (n : Int) : Ans ctx ref01_Put.n [.i .i64 n] (putS n) := by
  refine ans ref01_Put.f ?_
  unfold putS
  simp +contextual (disch := omega) [Nat.add_assoc, Int.add_assoc, if_pos, if_neg, -Int.not_lt, -Int.not_le, -Nat.not_lt, -Nat.not_le, -List.length_flatMap, ref01_Put.c]
  intro h0 h1
  obtain ⟨k0, rfl⟩ : ∃ k : Nat, n = k := ⟨n.toNat, by omega⟩
  have hlen : (digs k0).length ≤ 6 := digs_len 5 (by omega)
  refine while_w (fun k e m x => ∃ o, e 0 = .i .i64 (k : Nat) ∧ e 4 = .s (bs o) ∧ e 3 = .i .i64 0 ∧ k ≤ 1099511627776 ∧ o ++ digs k = digs k0) k0 ?_ ?_
  · refine ⟨[], ?_⟩
    simp +contextual (disch := omega) [Nat.add_assoc, Int.add_assoc, if_pos, if_neg, -Int.not_lt, -Int.not_le, -Nat.not_lt, -Nat.not_le, -List.length_flatMap]
    omega
  · rintro k e m x ⟨o, g1, g2, g3, g4, g5⟩
    by_cases hk : 128 ≤ k
    · rw [digs_ge hk] at g5
      have hol := congrArg List.length g5
      simp at hol
      simp +contextual (disch := omega) [Nat.add_assoc, Int.add_assoc, if_pos, if_neg, -Int.not_lt, -Int.not_le, -Nat.not_lt, -Nat.not_le, -List.length_flatMap, ref01_Put.b1, g1, g2, g3, Int.tmod_eq_emod_of_nonneg, Int.tdiv_eq_ediv_of_nonneg]
      exact ⟨k / 128, by omega, by omega, _, rfl, by omega, by rw [← g5]; simp; omega⟩
    · rw [digs_lt (by omega)] at g5
      have hol := congrArg List.length g5
      simp at hol
      simp +contextual (disch := omega) [Nat.add_assoc, Int.add_assoc, if_pos, if_neg, -Int.not_lt, -Int.not_le, -Nat.not_lt, -Nat.not_le, -List.length_flatMap, ref01_Put.b1, g1, g2, g3]
      rw [g5]

theorem and127 {a : Int} (h : 0 ≤ a) (h' : a < 18446744073709551616) : bin .and (.i .u64 a) (.i .u64 127) = some (.i .u64 (a % 128)) := by
  obtain ⟨k, rfl⟩ : ∃ k : Nat, a = k := ⟨a.toNat, by omega⟩
  simp only [bin, binI, if_true]
  congr 2
  have h1 : (BitVec.ofInt 64 (k : Int) &&& BitVec.ofInt 64 127).toNat = k % 128 := by
    rw [BitVec.toNat_and]
    have e1 : (BitVec.ofInt 64 (k : Int)).toNat = k := by simp [BitVec.toNat_ofInt]; omega
    have e2 : (BitVec.ofInt 64 127).toNat = 127 := by decide
    rw [e1, e2]
    exact Nat.and_two_pow_sub_one_eq_mod k 7
  have e3 : Go.IntKind.u64.bits = 64 := rfl
  rw [e3, h1]
  exact u64w (by omega) (by omega)
theorem shr7 {a : Int} (q : Go.IntKind) : bin .shr (.i .u64 a) (.i q 7) = some (.i .u64 (a / 128)) := by
  simp only [bin]
  rw [if_neg (by omega)]
  rw [show (2 : Int) ^ min (Int.toNat 7) Go.IntKind.u64.bits = 128 from rfl, Int.fdiv_eq_ediv_of_nonneg _ (by omega)]
theorem or128 {a : Int} (h : 0 ≤ a) (h' : a < 128) : bin .or (.i .u8 a) (.i .u8 128) = some (.i .u8 (a + 128)) := by
  have : ∀ d : Fin 128, Go.IntKind.u8.wrap ((BitVec.ofInt 8 ((d.val : Nat) : Int) ||| BitVec.ofInt 8 128).toNat : Nat) = (d.val : Int) + 128 := by decide
  obtain ⟨d, rfl⟩ : ∃ k : Nat, a = k := ⟨a.toNat, by omega⟩
  show some (V.i .u8 (Go.IntKind.u8.wrap ((BitVec.ofInt 8 ((d : Nat) : Int) ||| BitVec.ofInt 8 128).toNat : Nat))) = _
  rw [this ⟨d, by omega⟩]
attribute [simp] and127 shr7 or128
theorem octet_Put.a (n : Int) : Ans ctx octet_Put.n [.i .i64 n] (putS n) := by
  refine ans octet_Put.f ?_
  unfold putS
  simp +contextual (disch := omega) [Nat.add_assoc, Int.add_assoc, if_pos, if_neg, -Int.not_lt, -Int.not_le, -Nat.not_lt, -Nat.not_le, -List.length_flatMap, octet_Put.c]
  intro h0 h1
  obtain ⟨k0, rfl⟩ : ∃ k : Nat, n = k := ⟨n.toNat, by omega⟩
  have hlen : (digs k0).length ≤ 6 := digs_len 5 (by omega)
  refine open_w octet_digits.f rfl (.inl rfl) ?_
  simp +contextual (disch := omega) [Nat.add_assoc, Int.add_assoc, if_pos, if_neg, -Int.not_lt, -Int.not_le, -Nat.not_lt, -Nat.not_le, -List.length_flatMap, octet_digits.c]
  refine gen_e (fun E => E 4 = .p 8 0 ∧ E 15 = .fn (.func octet_digits_1.n) [] [.p 11 0]) (by simp +contextual (disch := omega) [Nat.add_assoc, Int.add_assoc, if_pos, if_neg, -Int.not_lt, -Int.not_le, -Nat.not_lt, -Nat.not_le, -List.length_flatMap]) ?_
  rintro E ⟨E1, E2⟩
  refine rf_w ?_
  simp +contextual (disch := omega) [Nat.add_assoc, Int.add_assoc, if_pos, if_neg, -Int.not_lt, -Int.not_le, -Nat.not_lt, -Nat.not_le, -List.length_flatMap, E2]
  refine open_w octet_digits_1.f rfl (.inr (by simp +contextual (disch := omega) [Nat.add_assoc, Int.add_assoc, if_pos, if_neg, -Int.not_lt, -Int.not_le, -Nat.not_lt, -Nat.not_le, -List.length_flatMap])) ?_
  simp +contextual (disch := omega) [Nat.add_assoc, Int.add_assoc, if_pos, if_neg, -Int.not_lt, -Int.not_le, -Nat.not_lt, -Nat.not_le, -List.length_flatMap, octet_digits_1.c]
  refine while_w (fun k e m x => ∃ B o, e 0 = .fn (.yield 16) [] [] ∧ e 1 = .p 11 0 ∧ m 11 = some (.cells [.i .u64 (k : Nat)] false) ∧ m 15 = some .dfr ∧
    m 16 = some (.loop ⟨E, [16, 17], octet_Put.a1, octet_Put.b2, .ready, none⟩) ∧ m 8 = some (.cells [B] false) ∧ Bf m B cU 1 o 17 x ∧ 17 ≤ x ∧ k ≤ 1099511627776 ∧ o ++ digs k = digs k0) k0 ?_ ?_
  · refine ⟨.ns, [], ?_⟩
    simp +contextual (disch := omega) [Nat.add_assoc, Int.add_assoc, if_pos, if_neg, -Int.not_lt, -Int.not_le, -Nat.not_lt, -Nat.not_le, -List.length_flatMap, Bf.nil]
    omega
  · rintro k e m x ⟨B, o, g1, g2, g3, g4, g5, g6, g7, g8, gk, g9⟩
    by_cases hk : 128 ≤ k
    · rw [digs_ge hk] at g9
      have hol := congrArg List.length g9
      simp at hol
      simp +contextual (disch := omega) [Nat.add_assoc, Int.add_assoc, if_pos, if_neg, -Int.not_lt, -Int.not_le, -Nat.not_lt, -Nat.not_le, -List.length_flatMap, octet_digits_1.b1, g1, g2, g3, g4, g5]
      refine yield_w g5 rfl rfl ?_
      simp +contextual (disch := omega) [Nat.add_assoc, Int.add_assoc, if_pos, if_neg, -Int.not_lt, -Int.not_le, -Nat.not_lt, -Nat.not_le, -List.length_flatMap, octet_Put.a1, octet_Put.b2, g5, g6, E1]
      refine g7.ap [k % 128 + 128] (by simp +contextual (disch := omega) [Nat.add_assoc, Int.add_assoc, if_pos, if_neg, -Int.not_lt, -Int.not_le, -Nat.not_lt, -Nat.not_le, -List.length_flatMap]) (by omega) (by omega) (by simp [cU]) rfl (by simp; omega) ?_
      intro B' ws m2 q0 q1 q2 q3
      simp +contextual (disch := omega) [Nat.add_assoc, Int.add_assoc, if_pos, if_neg, -Int.not_lt, -Int.not_le, -Nat.not_lt, -Nat.not_le, -List.length_flatMap, q0, g1, g2, g3, g4, g5, g6, q2, E1, q1.stor, q1.cells]
      refine ⟨k / 128, by omega, by simp, o ++ [k % 128 + 128], q1.up (by omega) (fun j h1 h2 => ?_), by omega, by rw [← g9]; simp⟩
      simp +contextual (disch := omega) [Nat.add_assoc, Int.add_assoc, if_pos, if_neg, -Int.not_lt, -Int.not_le, -Nat.not_lt, -Nat.not_le, -List.length_flatMap]
    · rw [digs_lt (by omega)] at g9
      have hol := congrArg List.length g9
      simp at hol
      simp +contextual (disch := omega) [Nat.add_assoc, Int.add_assoc, if_pos, if_neg, -Int.not_lt, -Int.not_le, -Nat.not_lt, -Nat.not_le, -List.length_flatMap, octet_digits_1.b1, g1, g2, g3, g4, g5]
      refine yield_w g5 rfl rfl ?_
      simp +contextual (disch := omega) [Nat.add_assoc, Int.add_assoc, if_pos, if_neg, -Int.not_lt, -Int.not_le, -Nat.not_lt, -Nat.not_le, -List.length_flatMap, octet_Put.a1, octet_Put.b2, g5, g6, E1]
      refine g7.ap [k] (by simp +contextual (disch := omega) [Nat.add_assoc, Int.add_assoc, if_pos, if_neg, -Int.not_lt, -Int.not_le, -Nat.not_lt, -Nat.not_le, -List.length_flatMap]) (by omega) (by omega) (by simp [cU]) rfl (by simp; omega) ?_
      intro B' ws m2 q0 q1 q2 q3
      simp +contextual (disch := omega) [Nat.add_assoc, Int.add_assoc, if_pos, if_neg, -Int.not_lt, -Int.not_le, -Nat.not_lt, -Nat.not_le, -List.length_flatMap, q0, g1, g2, g3, g4, g5, g6, q2, E1, q1.stor, q1.cells]
      rw [q1.sl (by simp +contextual (disch := omega) [Nat.add_assoc, Int.add_assoc, if_pos, if_neg, -Int.not_lt, -Int.not_le, -Nat.not_lt, -Nat.not_le, -List.length_flatMap])]
      simp +contextual (disch := omega) [Nat.add_assoc, Int.add_assoc, if_pos, if_neg, -Int.not_lt, -Int.not_le, -Nat.not_lt, -Nat.not_le, -List.length_flatMap, g4, g9, q2]
end Pi


set_option linter.unusedSimpArgs false
set_option linter.unusedVariables false
namespace Pi
end Pi


set_option linter.unusedSimpArgs false
set_option linter.unusedVariables false
namespace Pi
structure A where
  var : Int
  off : Int
  deriving Inhabited, DecidableEq
def cA (a : A) : List V := [.i .i64 a.var, .i .i64 a.off]
@[simp] theorem cA_len (a : A) : (cA a).length = 2 := rfl
@[simp] theorem cA_fz (a : A) (D : Nat → Option (Bool × List V × List V × List Nat)) : frzL D (cA a) = some (cA a, []) := by simp [cA]
instance : Cel cA 2 := ⟨cA_len, by decide, cA_fz⟩
@[simp] theorem cA_0 (a : A) : (cA a)[0]? = some (.i .i64 a.var) := rfl
@[simp] theorem cA_1 (a : A) : (cA a)[1]? = some (.i .i64 a.off) := rfl
@[simp] theorem cA_take (a : A) : (cA a).take 2 = cA a := rfl
@[simp] theorem cA_drop (a : A) : (cA a).drop 2 = [] := rfl
structure C where
  frm : List A
  to : A
  deriving Inhabited, DecidableEq
def cC (c : C) : List V := [sV cA c.frm, .i .i64 c.to.var, .i .i64 c.to.off]
@[simp] theorem cC_len (c : C) : (cC c).length = 3 := rfl
@[simp] theorem cC_fz (c : C) (D : Nat → Option (Bool × List V × List V × List Nat)) : frzL D (cC c) = some (cC c, []) := by simp [cC]
instance : Cel cC 3 := ⟨cC_len, by decide, cC_fz⟩
@[simp] theorem cC_0 (c : C) : (cC c)[0]? = some (sV cA c.frm) := rfl
@[simp] theorem cC_1 (c : C) : (cC c)[1]? = some (.i .i64 c.to.var) := rfl
@[simp] theorem cC_2 (c : C) : (cC c)[2]? = some (.i .i64 c.to.off) := rfl
@[simp] theorem cC_take (c : C) : (cC c).take 3 = cC c := rfl
@[simp] theorem cC_drop (c : C) : (cC c).drop 3 = [] := rfl
@[simp] theorem cC_tail (c : C) : (cC c).tail = cA c.to := rfl
@[simp] theorem cA_drop0 (a : A) : (cA a).tail = [.i .i64 a.off] := rfl
end Pi


set_option linter.unusedSimpArgs false
set_option linter.unusedVariables false
namespace Pi
section
variable {α : Type} {f : α → List V} {k : Nat}
end
theorem IfK_pos {p a b : Prop} (h : p) : IfK p a b = a := by simp [IfK, h]
end Pi


set_option linter.unusedSimpArgs false
set_option linter.unusedVariables false
namespace Pi
def namedR (k : Int) : Int := if k = 5 then 5 else if k = 6 then 10 else 0
theorem lcode_named.a (k : Int) : Ans ctx lcode_named.n [.i .i64 k] (.i .i64 (namedR k)) := by
  refine ans lcode_named.f ?_
  unfold namedR
  by_cases h5 : k = 5
  · simp +contextual (disch := omega) [Nat.add_assoc, Int.add_assoc, if_pos, if_neg, -Int.not_lt, -Int.not_le, -Nat.not_lt, -Nat.not_le, -List.length_flatMap, lcode_named.c, h5]
  · by_cases h6 : k = 6
    · simp +contextual (disch := omega) [Nat.add_assoc, Int.add_assoc, if_pos, if_neg, -Int.not_lt, -Int.not_le, -Nat.not_lt, -Nat.not_le, -List.length_flatMap, lcode_named.c, h5, h6]
    · simp +contextual (disch := omega) [Nat.add_assoc, Int.add_assoc, if_pos, if_neg, -Int.not_lt, -Int.not_le, -Nat.not_lt, -Nat.not_le, -List.length_flatMap, lcode_named.c, h5, h6]
/-- A place of the store, and what is new: can all be written to, and tells of these alone? -/
def InnM (p x : Nat) (m : Sto) : Prop := ∀ j, x ≤ j → innO (orNew [p] x) (m j) = true
theorem InnM.none {p x : Nat} {m : Sto} (h : ∀ j, x ≤ j → m j = none) : InnM p x m := fun j hj => by rw [h j hj]; rfl
theorem InnM.set {p x : Nat} {m : Sto} (h : InnM p x m) {l : Nat} {o : Option PObj} (ho : x ≤ l → innO (orNew [p] x) o = true) : InnM p x (m.set l o) := by
  intro j hj
  by_cases e : j = l
  · subst e; rw [Sto.seq]; exact ho hj
  · rw [Sto.sne _ _ _ _ e]; exact h j hj
theorem innL_app {S : Nat → Bool} : ∀ {a b : List V}, innL S a = true → innL S b = true → innL S (a ++ b) = true
  | [], _, _, h => h
  | c :: a, b, h, k => by
    simp only [innL, List.cons_append, Bool.and_eq_true] at *
    exact ⟨h.1, innL_app h.2 k⟩
end Pi


set_option linter.unusedSimpArgs false
set_option linter.unusedVariables false
namespace Pi
theorem kidsS_le (k : Int) : kidsS k ≤ 2 := by
  unfold kidsS
  split
  · omega
  · split
    · omega
    · split <;> omega
/-- What is right is so, kid by kid. -/
theorem right_kid {l : L} {p q d : Int} (h : rightS l p q d = true) : 0 < d ∧ (l.kids.length : Int) = kidsS l.kind ∧ namedS l p q = true ∧ ∀ k ∈ l.kids, rightS k p q (d - 1) = true := by
  rw [rightS_eq] at h
  simp only [Bool.and_eq_true, decide_eq_true_eq, Bool.not_eq_true', List.any_eq_false, Bool.not_eq_false] at h
  exact ⟨h.1.1.1, h.1.1.2, h.1.2, h.2⟩
theorem right_kind {l : L} {p q d : Int} (h : rightS l p q d = true) : l.kind = 1 ∨ l.kind = 2 ∨ l.kind = 3 ∨ l.kind = 4 ∨ l.kind = 5 ∨ l.kind = 6 := by
  have h2 := (right_kid h).2.1
  unfold kidsS at h2
  split at h2
  · omega
  · split at h2
    · omega
    · split at h2 <;> omega
end Pi

