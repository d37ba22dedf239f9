/- Where the first thing stands of which something holds, in plain Lean. -/
import Derived.Test.YtglabbjideniaaaGreatCode
import Derived.Test.YtglabbjideniaaaGreatEnc
import Derived.Test.YtglabbjideniaaaGreatFw4
set_option linter.unusedSimpArgs false
set_option linter.unusedVariables false
namespace Pi
mutual
def nodesS (l : L) (most : Int) : Int := match l with
  | .mk _ _ ks => nodesL ks most 1
def nodesL (ks : List L) (most n : Int) : Int := match ks with
  | [] => n
  | k :: r => nodesL r most (if n < most then n + nodesS k (most - n) else n)
end
def nodesF (most n : Int) (k : L) : Int := if n < most then n + nodesS k (most - n) else n
theorem nodesL_eq (ks : List L) (most n : Int) : nodesL ks most n = ks.foldl (nodesF most) n := by
  induction ks generalizing n with
  | nil => simp [nodesL]
  | cons k r ih => simp [nodesL, ih, nodesF]
theorem nodesS_eq (l : L) (most : Int) : nodesS l most = l.kids.foldl (nodesF most) 1 := by
  cases l; simp [nodesS, nodesL_eq]
theorem nodesS_bd (l : L) : ∀ most, 1 ≤ nodesS l most ∧ (nodesS l most ≤ most ∨ nodesS l most = 1) := by
  induction l using L.ind with
  | h l ih =>
    intro most
    rw [nodesS_eq]
    refine fold_inv (P := fun n => 1 ≤ n ∧ (n ≤ most ∨ n = 1)) (fun n k hk hn => ?_) ⟨by omega, .inr rfl⟩
    have := ih k hk (most - n)
    unfold nodesF
    split <;> omega
theorem level_nodes.a (l : L) : l.Ok → ∀ most, -1000 < most → most < 1000 → Ans ctx level_nodes.n [.ag (cL l), .i .i64 most] (.i .i64 (nodesS l most)) := by
  induction l using L.ind with
  | h l ih =>
  intro ok most h1 h2
  have hlen := ok.len
  refine ans level_nodes.f ?_
  simp +contextual (disch := omega) [Nat.add_assoc, Int.add_assoc, if_pos, if_neg, -Int.not_lt, -Int.not_le, -Nat.not_lt, -Nat.not_le, -List.length_flatMap, level_nodes.c]
  refine for_w (fun i e m x => e 1 = .i .i64 most ∧ e 9 = sV cL l.kids ∧ e 10 = .i .i64 l.kids.length ∧ e 11 = .i .i64 i ∧ ∃ n, e 5 = .i .i64 n ∧ (l.kids.take i).foldl (nodesF most) 1 = n ∧ 1 ≤ n ∧ (n ≤ most ∨ n = 1)) l.kids.length ?_ ?_ ?_
  · simp
  · rintro i e m x hi ⟨g1, g2, g3, g4, n, g5, g6, g7, g8⟩
    have hk := ih l.kids[i] (List.getElem_mem hi) (ok.at hi)
    have hb := nodesS_bd l.kids[i] (most - n)
    simp +contextual (disch := omega) [Nat.add_assoc, Int.add_assoc, if_pos, if_neg, -Int.not_lt, -Int.not_le, -Nat.not_lt, -Nat.not_le, -List.length_flatMap, level_nodes.b1, hi, g1, g2, g3, g4, g5, g6, ansK (hk _ _ _), take_fold, nodesF, IfK]
    omega
  · rintro e m x ⟨g1, g2, g3, g4, n, g5, g6, g7, g8⟩
    simp +contextual (disch := omega) [Nat.add_assoc, Int.add_assoc, if_pos, if_neg, -Int.not_lt, -Int.not_le, -Nat.not_lt, -Nat.not_le, -List.length_flatMap, level_nodes.b1, g1, g2, g3, g4, g5]
    simpa [nodesS_eq] using g6.symm
end Pi


set_option linter.unusedSimpArgs false
set_option linter.unusedVariables false
namespace Pi
/-- Where the first thing stands of which it holds; -1: nowhere. -/
def idxS {α : Type} (p : α → Bool) (l : List α) : Int := match l.findIdx? p with | some i => i | none => -1
theorem idx_ge {α : Type} (p : α → Bool) (l : List α) : decide (0 ≤ idxS p l) = l.any p := by
  unfold idxS
  cases h : l.findIdx? p with
  | none =>
    rw [List.findIdx?_eq_none_iff] at h
    simp
    intro x hx
    simpa using h x hx
  | some i =>
    rw [List.findIdx?_eq_some_iff_getElem] at h
    obtain ⟨h1, h2, _⟩ := h
    simp
    exact ⟨l[i], List.getElem_mem h1, h2⟩
theorem idx_take {α : Type} {p : α → Bool} {l : List α} {i : Nat} (hi : i < l.length) (h : (l.take i).all (fun a => !p a) = true) : (p l[i] = true → idxS p l = i) ∧ (p l[i] = false → (l.take (i + 1)).all (fun a => !p a) = true) := by
  refine ⟨fun hp => ?_, fun hp => ?_⟩
  · unfold idxS
    have : l.findIdx? p = some i := by
      rw [List.findIdx?_eq_some_iff_getElem]
      refine ⟨hi, hp, fun j hj => ?_⟩
      have := List.all_eq_true.1 h l[j] (by rw [List.mem_take_iff_getElem]; exact ⟨j, by omega, rfl⟩)
      simpa using this
    rw [this]
  · rw [List.take_succ_eq_append_getElem hi, List.all_append, h]
    simp [hp]
theorem idx_all {α : Type} {p : α → Bool} {l : List α} (h : l.all (fun a => !p a) = true) : idxS p l = -1 := by
  unfold idxS
  have : l.findIdx? p = none := by
    rw [List.findIdx?_eq_none_iff]
    intro x hx
    simpa using List.all_eq_true.1 h x hx
  rw [this]
/-- Numbers from 0 to 2^40. -/
def Nats (l : List Int) : Prop := ∀ a ∈ l, 0 ≤ a ∧ a ≤ 1099511627776
theorem Nats.getD {l : List Int} (h : Nats l) (i : Nat) : 0 ≤ l.getD i 0 ∧ l.getD i 0 ≤ 1099511627776 := by
  by_cases hi : i < l.length
  · have : l.getD i 0 = l[i] := by simp [hi]
    rw [this]
    exact h _ (List.getElem_mem hi)
  · have : l.getD i 0 = 0 := by simp [List.getElem?_eq_none (by omega : l.length ≤ i)]
    omega
/-- Is a number no value? -/
def oddN (n : Int) : Bool := decide (n < 0) || decide (1099511627776 < n)
theorem nats_iff {l : List Int} : l.any oddN = false ↔ Nats l := by
  unfold Nats
  rw [List.any_eq_false]
  constructor
  · intro h a ha
    have := h a ha
    simp [oddN] at this
    omega
  · intro h a ha
    have := h a ha
    simp [oddN]
    omega
theorem getD_get {α : Type} (l : List α) (d : α) {i : Nat} (h : i < l.length) : l.getD i d = l[i] := by simp [h]
theorem take_set {α : Type} {cs : List α} {j : Nat} {v : α} (h : j < cs.length) : cs.take j ++ v :: cs.drop (j + 1) = cs.set j v := by
  rw [List.set_eq_take_append_cons_drop, if_pos h]
theorem take_all {α : Type} {p : α → Bool} {l : List α} {k : Nat} (hk : k < l.length) (h : (l.take k).all p = true) (hp : p l[k] = true) : (l.take (k + 1)).all p = true := by
  rw [List.take_succ_eq_append_getElem hk, List.all_append, h]
  simp [hp]
theorem flatI_map (q : List Int) : q.flatMap cI = q.map (V.i .i64) := by induction q <;> simp_all
theorem flatI_len (q : List Int) : (q.flatMap cI).length = q.length := by rw [flatI_map, List.length_map]
theorem flatI_get {q : List Int} {i : Nat} (h : i < (q.flatMap cI).length) : (q.flatMap cI)[i] = V.i .i64 (q[i]'(by rw [flatI_len] at h; exact h)) := by simp [flatI_map]
theorem flatI_set {l : List Int} {j : Nat} {v : Int} (h : j < l.length) : (l.flatMap cI).take j ++ V.i .i64 v :: (l.flatMap cI).drop (j + 1) = (l.set j v).flatMap cI := by
  rw [flatI_map, flatI_map, take_set (by simpa using h), List.map_set]
theorem flatI_all {q : List Int} {n : Nat} (h : n = q.length) : (q.flatMap cI).take n = q.flatMap cI := List.take_of_length_le (by rw [flatI_len]; omega)
end Pi


set_option linter.unusedSimpArgs false
set_option linter.unusedVariables false
namespace Pi
theorem slices_IndexFunc_int.a (l : List Int) (g : Nat) (caps : List V) (p : Int → Bool) (hg : (ctx.opn g || ctx.frz g) = false) (hpr : ctx.prim g = none) (hc : ∀ D, frzL D caps = some (caps, [])) (h : ∀ k ∈ l, Ans ctx g ((.i .i64 k) :: caps) (.b (p k))) (hl : l.length ≤ 9223372036854775807) :
    Ans ctx slices_IndexFunc_int.n [sV cI l, .fn (.func g) [] caps] (.i .i64 (idxS p l)) := by
  refine ans slices_IndexFunc_int.f ?_
  simp +contextual (disch := omega) [Nat.add_assoc, Int.add_assoc, if_pos, if_neg, -Int.not_lt, -Int.not_le, -Nat.not_lt, -Nat.not_le, -List.length_flatMap, slices_IndexFunc_int.c]
  refine for_w (fun i e m x => e 0 = sV cI l ∧ e 1 = .fn (.func g) [] caps ∧ e 7 = .i .i64 l.length ∧ e 8 = .i .i64 i ∧ (l.take i).all (fun a => !p a) = true) l.length ?_ ?_ ?_
  · simp +contextual (disch := omega) [Nat.add_assoc, Int.add_assoc, if_pos, if_neg, -Int.not_lt, -Int.not_le, -Nat.not_lt, -Nat.not_le, -List.length_flatMap]
  · rintro i e m x hi ⟨g1, g2, g3, g4, g5⟩
    have hk := h l[i] (List.getElem_mem hi)
    obtain ⟨q1, q2⟩ := idx_take hi g5
    cases hp : p l[i] with
    | true =>
      rw [hp] at hk
      simp +contextual (disch := omega) [Nat.add_assoc, Int.add_assoc, if_pos, if_neg, -Int.not_lt, -Int.not_le, -Nat.not_lt, -Nat.not_le, -List.length_flatMap, slices_IndexFunc_int.b1, g1, g2, g3, g4, hi, CallX_cl (C := ctx) (g := g) hpr (orF hg).1 (orF hg).2, hc, ansK hk, q1 hp]
    | false =>
      rw [hp] at hk
      simp +contextual (disch := omega) [Nat.add_assoc, Int.add_assoc, if_pos, if_neg, -Int.not_lt, -Int.not_le, -Nat.not_lt, -Nat.not_le, -List.length_flatMap, slices_IndexFunc_int.b1, g1, g2, g3, g4, hi, CallX_cl (C := ctx) (g := g) hpr (orF hg).1 (orF hg).2, hc, ansK hk, q2 hp]
  · rintro e m x ⟨g1, g2, g3, g4, g5⟩
    rw [List.take_length] at g5
    simp +contextual (disch := omega) [Nat.add_assoc, Int.add_assoc, if_pos, if_neg, -Int.not_lt, -Int.not_le, -Nat.not_lt, -Nat.not_le, -List.length_flatMap, slices_IndexFunc_int.b1, g1, g2, g3, g4, idx_all g5]
theorem slices_ContainsFunc_int.a (l : List Int) (g : Nat) (caps : List V) (p : Int → Bool) (hg : (ctx.opn g || ctx.frz g) = false) (hpr : ctx.prim g = none) (hc : ∀ D, frzL D caps = some (caps, [])) (h : ∀ k ∈ l, Ans ctx g ((.i .i64 k) :: caps) (.b (p k))) (hl : l.length ≤ 9223372036854775807) :
    Ans ctx slices_ContainsFunc_int.n [sV cI l, .fn (.func g) [] caps] (.b (l.any p)) := by
  refine ans slices_ContainsFunc_int.f ?_
  simp +contextual (disch := omega) [Nat.add_assoc, Int.add_assoc, if_pos, if_neg, -Int.not_lt, -Int.not_le, -Nat.not_lt, -Nat.not_le, -List.length_flatMap, slices_ContainsFunc_int.c, hc, ansK (slices_IndexFunc_int.a l g caps p hg hpr hc h hl), idx_ge]
end Pi


set_option linter.unusedSimpArgs false
set_option linter.unusedVariables false
namespace Pi
theorem slices_IndexFunc_Level.a (l : List L) (g : Nat) (caps : List V) (p : L → Bool) (hg : (ctx.opn g || ctx.frz g) = false) (hpr : ctx.prim g = none) (hc : ∀ D, frzL D caps = some (caps, [])) (h : ∀ k ∈ l, Ans ctx g ((.ag (cL k)) :: caps) (.b (p k))) (hl : l.length ≤ 9223372036854775807) :
    Ans ctx slices_IndexFunc_Level.n [sV cL l, .fn (.func g) [] caps] (.i .i64 (idxS p l)) := by
  refine ans slices_IndexFunc_Level.f ?_
  simp +contextual (disch := omega) [Nat.add_assoc, Int.add_assoc, if_pos, if_neg, -Int.not_lt, -Int.not_le, -Nat.not_lt, -Nat.not_le, -List.length_flatMap, slices_IndexFunc_Level.c]
  refine for_w (fun i e m x => e 0 = sV cL l ∧ e 1 = .fn (.func g) [] caps ∧ e 7 = .i .i64 l.length ∧ e 8 = .i .i64 i ∧ (l.take i).all (fun a => !p a) = true) l.length ?_ ?_ ?_
  · simp +contextual (disch := omega) [Nat.add_assoc, Int.add_assoc, if_pos, if_neg, -Int.not_lt, -Int.not_le, -Nat.not_lt, -Nat.not_le, -List.length_flatMap]
  · rintro i e m x hi ⟨g1, g2, g3, g4, g5⟩
    have hk := h l[i] (List.getElem_mem hi)
    obtain ⟨q1, q2⟩ := idx_take hi g5
    cases hp : p l[i] with
    | true =>
      rw [hp] at hk
      simp +contextual (disch := omega) [Nat.add_assoc, Int.add_assoc, if_pos, if_neg, -Int.not_lt, -Int.not_le, -Nat.not_lt, -Nat.not_le, -List.length_flatMap, slices_IndexFunc_Level.b1, g1, g2, g3, g4, hi, CallX_cl (C := ctx) (g := g) hpr (orF hg).1 (orF hg).2, hc, ansK hk, q1 hp]
    | false =>
      rw [hp] at hk
      simp +contextual (disch := omega) [Nat.add_assoc, Int.add_assoc, if_pos, if_neg, -Int.not_lt, -Int.not_le, -Nat.not_lt, -Nat.not_le, -List.length_flatMap, slices_IndexFunc_Level.b1, g1, g2, g3, g4, hi, CallX_cl (C := ctx) (g := g) hpr (orF hg).1 (orF hg).2, hc, ansK hk, q2 hp]
  · rintro e m x ⟨g1, g2, g3, g4, g5⟩
    rw [List.take_length] at g5
    simp +contextual (disch := omega) [Nat.add_assoc, Int.add_assoc, if_pos, if_neg, -Int.not_lt, -Int.not_le, -Nat.not_lt, -Nat.not_le, -List.length_flatMap, slices_IndexFunc_Level.b1, g1, g2, g3, g4, idx_all g5]
theorem slices_ContainsFunc_Level.a (l : List L) (g : Nat) (caps : List V) (p : L → Bool) (hg : (ctx.opn g || ctx.frz g) = false) (hpr : ctx.prim g = none) (hc : ∀ D, frzL D caps = some (caps, [])) (h : ∀ k ∈ l, Ans ctx g ((.ag (cL k)) :: caps) (.b (p k))) (hl : l.length ≤ 9223372036854775807) :
    Ans ctx slices_ContainsFunc_Level.n [sV cL l, .fn (.func g) [] caps] (.b (l.any p)) := by
  refine ans slices_ContainsFunc_Level.f ?_
  simp +contextual (disch := omega) [Nat.add_assoc, Int.add_assoc, if_pos, if_neg, -Int.not_lt, -Int.not_le, -Nat.not_lt, -Nat.not_le, -List.length_flatMap, slices_ContainsFunc_Level.c, hc, ansK (slices_IndexFunc_Level.a l g caps p hg hpr hc h hl), idx_ge]
end Pi


set_option linter.unusedSimpArgs false
set_option linter.unusedVariables false
namespace Pi
def kidsS (k : Int) : Int := if k = 1 ∨ k = 5 ∨ k = 6 then 0 else if k = 2 then 1 else if k = 3 ∨ k = 4 then 2 else -1
def namedS (l : L) (p q : Int) : Bool := if l.kind = 5 then decide (0 ≤ l.n) && decide (l.n < p) else if l.kind = 6 then decide (0 ≤ l.n) && decide (l.n < q) else decide (l.n = 0)
mutual
def rightS (l : L) (p q d : Int) : Bool := match l with
  | .mk k n ks => decide (0 < d) && decide ((ks.length : Int) = kidsS k) && namedS (.mk k n []) p q && !(oddL ks p q (d - 1))
def oddL (ks : List L) (p q d : Int) : Bool := match ks with
  | [] => false
  | k :: r => !(rightS k p q d) || oddL r p q d
end
theorem oddL_eq (ks : List L) (p q d : Int) : oddL ks p q d = ks.any fun k => !(rightS k p q d) := by
  induction ks with
  | nil => rfl
  | cons k r ih => simp [oddL, ih]
theorem rightS_eq (l : L) (p q d : Int) : rightS l p q d = (decide (0 < d) && decide ((l.kids.length : Int) = kidsS l.kind) && namedS l p q && !(l.kids.any fun k => !(rightS k p q (d - 1)))) := by
  cases l with
  | mk k n ks => simp only [rightS, oddL_eq]; rfl
def RightS (l : L) (p q : Int) : Bool := if p < 0 ∨ 5 < p ∨ q < 0 ∨ 10 < q then false else decide (nodesS l 101 ≤ 100) && rightS l p q 12

theorem level_named.a (l : L) (p q : Int) : Ans ctx level_named.n [.ag (cL l), .i .i64 p, .i .i64 q] (.b (namedS l p q)) := by
  refine ans level_named.f ?_
  simp +contextual (disch := omega) [Nat.add_assoc, Int.add_assoc, if_pos, if_neg, -Int.not_lt, -Int.not_le, -Nat.not_lt, -Nat.not_le, -List.length_flatMap, level_named.c, namedS]
theorem level_imax.a (a b : Int) : Ans ctx level_imax.n [.i .i64 a, .i .i64 b] (.i .i64 (if b = 0 then 0 else max a b)) := by
  refine ans level_imax.f ?_
  simp +contextual (disch := omega) [Nat.add_assoc, Int.add_assoc, if_pos, if_neg, -Int.not_lt, -Int.not_le, -Nat.not_lt, -Nat.not_le, -List.length_flatMap, level_imax.c]
def kindsM : V := .rm [.i .i64 1, .i .i64 2, .i .i64 3, .i .i64 4, .i .i64 5, .i .i64 6]
  [.ag [.i .i64 0, .fn (.func level_kinds_1.n) [] []], .ag [.i .i64 1, .fn (.func level_kinds_2.n) [] []], .ag [.i .i64 2, .fn (.func level_kinds_3.n) [] []],
   .ag [.i .i64 2, .fn (.func level_kinds_4.n) [] []], .ag [.i .i64 0, .fn (.func level_kinds_5.n) [] []], .ag [.i .i64 0, .fn (.func level_kinds_6.n) [] []]]
set_option maxRecDepth 100000 in
theorem level_kinds.a : Ans ctx level_kinds.n [] kindsM := ans_told (n := 300) (by kernel_rfl)
def isK (k : Int) : Bool := decide (1 ≤ k) && decide (k ≤ 6)
def kidN (k : Int) : Int := if k = 2 then 1 else if k = 3 ∨ k = 4 then 2 else 0
def kindF (k : Int) : V := if k = 1 then .fn (.func level_kinds_1.n) [] [] else if k = 2 then .fn (.func level_kinds_2.n) [] [] else if k = 3 then .fn (.func level_kinds_3.n) [] []
  else if k = 4 then .fn (.func level_kinds_4.n) [] [] else if k = 5 then .fn (.func level_kinds_5.n) [] [] else if k = 6 then .fn (.func level_kinds_6.n) [] [] else .nf
theorem kind_of (k : Int) : k = 1 ∨ k = 2 ∨ k = 3 ∨ k = 4 ∨ k = 5 ∨ k = 6 ∨ (k ≠ 1 ∧ k ≠ 2 ∧ k ≠ 3 ∧ k ≠ 4 ∧ k ≠ 5 ∧ k ≠ 6) := by omega
theorem kinds_lk (m : Sto) (k : Int) : lkV m (.one .i) (.ag [.i .i64 0, .nf]) kindsM (.i .i64 k) true = some (.tu [.ag [.i .i64 (kidN k), kindF k], .b (isK k)], []) := by
  unfold kindsM
  rcases kind_of k with rfl | rfl | rfl | rfl | rfl | rfl | ⟨h1, h2, h3, h4, h5, h6⟩
  all_goals simp [kidN, kindF, isK]
  all_goals simp [*]
  omega
theorem kinds_lk0 (m : Sto) (k : Int) : lkV m (.one .i) (.ag [.i .i64 0, .nf]) kindsM (.i .i64 k) false = some (.ag [.i .i64 (kidN k), kindF k], []) := by
  unfold kindsM
  rcases kind_of k with rfl | rfl | rfl | rfl | rfl | rfl | ⟨h1, h2, h3, h4, h5, h6⟩
  all_goals simp [kidN, kindF]
  all_goals simp [*]
@[simp] theorem refOf_kinds : refOf kindsM = [] := (rfl)
theorem kids_of (k n : Int) (h : 0 ≤ n) : decide (n = kidsS k) = (isK k && decide (n = kidN k)) := by
  rcases kind_of k with rfl | rfl | rfl | rfl | rfl | rfl | ⟨h1, h2, h3, h4, h5, h6⟩
  all_goals simp [kidN, kidsS, isK]
  all_goals simp [*]
  rw [Bool.eq_iff_iff]
  simp
  omega

theorem level_right.a (l : L) : l.Ok → ∀ p q d : Int, (0 ≤ d ∧ d ≤ 100) → Ans ctx level_right.n [.ag (cL l), .i .i64 p, .i .i64 q, .i .i64 d] (.b (rightS l p q d)) := by
  induction l using L.ind with
  | h l ih =>
  intro ok p q d hd
  have hlen := ok.len
  refine ans level_right.f ?_
  rw [rightS_eq, kids_of _ _ (by omega)]
  by_cases h0 : 0 < d
  · have hodd : ∀ k ∈ l.kids, Ans ctx level_right_1.n (.ag (cL k) :: [.rp [.i .i64 p], .rp [.i .i64 q], .rp [.i .i64 d]]) (.b (!(rightS k p q (d - 1)))) := by
      intro k hk
      refine ans level_right_1.f ?_
      simp +contextual (disch := omega) [Nat.add_assoc, Int.add_assoc, if_pos, if_neg, -Int.not_lt, -Int.not_le, -Nat.not_lt, -Nat.not_le, -List.length_flatMap, level_right_1.c, ansK (ih k hk (ok.kid hk) p q (d - 1) (by omega))]
    have hc := slices_ContainsFunc_Level.a l.kids level_right_1.n [.rp [.i .i64 p], .rp [.i .i64 q], .rp [.i .i64 d]] (fun k => !(rightS k p q (d - 1))) rfl rfl (by intro D; simp) hodd hlen
    generalize (l.kids.any fun k => !(rightS k p q (d - 1))) = A at hc
    generalize hN : (l.kids.length : Int) = N
    simp +contextual (disch := omega) [Nat.add_assoc, Int.add_assoc, if_pos, if_neg, -Int.not_lt, -Int.not_le, -Nat.not_lt, -Nat.not_le, -List.length_flatMap, level_right.c, h0, ansK level_kinds.a, kinds_lk, ansK (level_named.a _ _ _), ansK hc, hN]
  · simp +contextual (disch := omega) [Nat.add_assoc, Int.add_assoc, if_pos, if_neg, -Int.not_lt, -Int.not_le, -Nat.not_lt, -Nat.not_le, -List.length_flatMap, level_right.c, h0, ansK level_kinds.a, kinds_lk]

theorem level_Right.a (l : L) (ok : l.Ok) (p q : Int) : Ans ctx level_Right.n [.ag (cL l), .i .i64 p, .i .i64 q] (.b (RightS l p q)) := by
  refine ans level_Right.f ?_
  simp +contextual (disch := omega) [Nat.add_assoc, Int.add_assoc, if_pos, if_neg, -Int.not_lt, -Int.not_le, -Nat.not_lt, -Nat.not_le, -List.length_flatMap, level_Right.c, RightS, ansK (level_nodes.a l ok _ _ _), ansK (level_right.a l ok _ _ _ _)]
end Pi


set_option linter.unusedSimpArgs false
set_option linter.unusedVariables false
namespace Pi
def imaxS (a b : Int) : Int := if b = 0 then 0 else max a b
def valK (k n : Int) (ps ms vs : List Int) : Int :=
  if k = 2 then vs.getD 0 0 + 1 else if k = 3 then max (vs.getD 0 0) (vs.getD 1 0) else if k = 4 then imaxS (vs.getD 0 0) (vs.getD 1 0)
  else if k = 5 then ps.getD n.toNat 0 else if k = 6 then ms.getD n.toNat 0 else 0
mutual
def lvS (l : L) (ps ms : List Int) : Int := match l with
  | .mk k n ks => valK k n ps ms (lvL ks ps ms)
def lvL (ks : List L) (ps ms : List Int) : List Int := match ks with
  | [] => []
  | k :: r => lvS k ps ms :: lvL r ps ms
end
theorem lvL_eq (ks : List L) (ps ms : List Int) : lvL ks ps ms = ks.map fun k => lvS k ps ms := by
  induction ks with
  | nil => rfl
  | cons k r ih => simp [lvL, ih]
theorem lvS_eq (l : L) (ps ms : List Int) : lvS l ps ms = valK l.kind l.n ps ms (l.kids.map fun k => lvS k ps ms) := by
  cases l with
  | mk k n ks => simp only [lvS, lvL_eq]; rfl
theorem kidsS_le (k : Int) : kidsS k ≤ 2 := by
  unfold kidsS
  split
  · omega
  · split
    · omega
    · split <;> omega
/-- What is right is so, kid by kid. -/
theorem right_kid {l : L} {p q d : Int} (h : rightS l p q d = true) : 0 < d ∧ (l.kids.length : Int) = kidsS l.kind ∧ namedS l p q = true ∧ ∀ k ∈ l.kids, rightS k p q (d - 1) = true := by
  rw [rightS_eq] at h
  simp only [Bool.and_eq_true, decide_eq_true_eq, Bool.not_eq_true', List.any_eq_false, Bool.not_eq_false] at h
  exact ⟨h.1.1.1, h.1.1.2, h.1.2, h.2⟩
theorem right_kind {l : L} {p q d : Int} (h : rightS l p q d = true) : l.kind = 1 ∨ l.kind = 2 ∨ l.kind = 3 ∨ l.kind = 4 ∨ l.kind = 5 ∨ l.kind = 6 := by
  have h2 := (right_kid h).2.1
  unfold kidsS at h2
  split at h2
  · omega
  · split at h2
    · omega
    · split at h2 <;> omega
theorem lvS_bd (l : L) : ∀ (ps ms : List Int) (p q d : Int), Nats ps → Nats ms → rightS l p q d = true → 0 ≤ lvS l ps ms ∧ lvS l ps ms ≤ 1099511627776 + (d - 1) := by
  induction l using L.ind with
  | h l ih =>
    intro ps ms p q d hp hm h
    obtain ⟨h1, h2, h3, h4⟩ := right_kid h
    rw [lvS_eq]
    have hv : ∀ i : Nat, i < l.kids.length → 0 ≤ (l.kids.map fun k => lvS k ps ms).getD i 0 ∧ (l.kids.map fun k => lvS k ps ms).getD i 0 ≤ 1099511627776 + (d - 2) := by
      intro i hi
      have e1 : (l.kids.map fun k => lvS k ps ms).getD i 0 = lvS l.kids[i] ps ms := by simp [hi]
      rw [e1]
      have := ih _ (List.getElem_mem hi) ps ms p q (d - 1) hp hm (h4 _ (List.getElem_mem hi))
      omega
    have a1 := hp.getD l.n.toNat
    have a2 := hm.getD l.n.toNat
    rcases right_kind h with hk | hk | hk | hk | hk | hk <;> rw [hk] at h2 <;> simp [kidsS] at h2 <;> simp only [valK, hk, imaxS]
    · simp; omega
    · have := hv 0 (by omega)
      simp at this ⊢; omega
    · have b1 := hv 0 (by omega)
      have b2 := hv 1 (by omega)
      simp at b1 b2 ⊢; omega
    · have b1 := hv 0 (by omega)
      have b2 := hv 1 (by omega)
      simp at b1 b2 ⊢
      split <;> omega
    · simp at a1 ⊢; omega
    · simp at a2 ⊢; omega

theorem len_two {α : Type} {l : List α} (h : l.length = 2) : ∃ a b, l = [a, b] := by
  match l, h with
  | [a, b], _ => exact ⟨a, b, rfl⟩
abbrev cV (ps ms : List Int) : V := .ag [sV cI ps, sV cI ms]
theorem level_kinds_1.a (l : L) (ps ms vs : List Int) : Ans ctx level_kinds_1.n [.ag (cL l), cV ps ms, sV cI vs] (.i .i64 0) := by
  refine ans level_kinds_1.f ?_
  simp +contextual (disch := omega) [Nat.add_assoc, Int.add_assoc, if_pos, if_neg, -Int.not_lt, -Int.not_le, -Nat.not_lt, -Nat.not_le, -List.length_flatMap, level_kinds_1.c]
theorem level_kinds_2.a (l : L) (ps ms : List Int) (a : Int) (ha : 0 ≤ a ∧ a ≤ 1099511628776) : Ans ctx level_kinds_2.n [.ag (cL l), cV ps ms, sV cI [a]] (.i .i64 (a + 1)) := by
  refine ans level_kinds_2.f ?_
  simp +contextual (disch := omega) [Nat.add_assoc, Int.add_assoc, if_pos, if_neg, -Int.not_lt, -Int.not_le, -Nat.not_lt, -Nat.not_le, -List.length_flatMap, level_kinds_2.c]
theorem level_kinds_3.a (l : L) (ps ms : List Int) (a b : Int) : Ans ctx level_kinds_3.n [.ag (cL l), cV ps ms, sV cI [a, b]] (.i .i64 (max a b)) := by
  refine ans level_kinds_3.f ?_
  simp +contextual (disch := omega) [Nat.add_assoc, Int.add_assoc, if_pos, if_neg, -Int.not_lt, -Int.not_le, -Nat.not_lt, -Nat.not_le, -List.length_flatMap, level_kinds_3.c]
theorem level_kinds_4.a (l : L) (ps ms : List Int) (a b : Int) : Ans ctx level_kinds_4.n [.ag (cL l), cV ps ms, sV cI [a, b]] (.i .i64 (imaxS a b)) := by
  refine ans level_kinds_4.f ?_
  simp +contextual (disch := omega) [Nat.add_assoc, Int.add_assoc, if_pos, if_neg, -Int.not_lt, -Int.not_le, -Nat.not_lt, -Nat.not_le, -List.length_flatMap, level_kinds_4.c, ansK (level_imax.a a b), imaxS]
theorem level_kinds_5.a (l : L) (ps ms vs : List Int) (h : 0 ≤ l.n ∧ l.n < ps.length) : Ans ctx level_kinds_5.n [.ag (cL l), cV ps ms, sV cI vs] (.i .i64 (ps.getD l.n.toNat 0)) := by
  refine ans level_kinds_5.f ?_
  have : l.n.toNat < ps.length := by omega
  simp +contextual (disch := omega) [Nat.add_assoc, Int.add_assoc, if_pos, if_neg, -Int.not_lt, -Int.not_le, -Nat.not_lt, -Nat.not_le, -List.length_flatMap, level_kinds_5.c, this]
theorem level_kinds_6.a (l : L) (ps ms vs : List Int) (h : 0 ≤ l.n ∧ l.n < ms.length) : Ans ctx level_kinds_6.n [.ag (cL l), cV ps ms, sV cI vs] (.i .i64 (ms.getD l.n.toNat 0)) := by
  refine ans level_kinds_6.f ?_
  have : l.n.toNat < ms.length := by omega
  simp +contextual (disch := omega) [Nat.add_assoc, Int.add_assoc, if_pos, if_neg, -Int.not_lt, -Int.not_le, -Nat.not_lt, -Nat.not_le, -List.length_flatMap, level_kinds_6.c, this]

theorem level_value.a (l : L) : l.Ok → ∀ (ps ms : List Int) (d : Int), Nats ps → Nats ms → d ≤ 100 → rightS l ps.length ms.length d = true → Ans ctx level_value.n [.ag (cL l), cV ps ms] (.i .i64 (lvS l ps ms)) := by
  induction l using L.ind with
  | h l ih =>
  intro ok ps ms d hp hm hd hr
  have hlen := ok.len
  obtain ⟨h1, h2, h3, h4⟩ := right_kid hr
  have hk2 : l.kids.length ≤ 2 := by
    have := kidsS_le l.kind
    omega
  refine ans level_value.f ?_
  simp +contextual (disch := omega) [Nat.add_assoc, Int.add_assoc, if_pos, if_neg, -Int.not_lt, -Int.not_le, -Nat.not_lt, -Nat.not_le, -List.length_flatMap, level_value.c]
  refine for_w (fun i e m x => e 2 = .p 0 0 ∧ e 3 = .p 1 0 ∧ m 0 = some (.cells (cL l) false) ∧ m 1 = some (.cells [sV cI ps, sV cI ms] false) ∧ e 9 = sV cL l.kids ∧ e 10 = .i .i64 l.kids.length ∧ e 11 = .i .i64 i ∧
    8 ≤ x ∧ Bf m (e 5) cI 1 ((l.kids.take i).map fun k => lvS k ps ms) 8 x) l.kids.length ?_ ?_ ?_
  · simp +contextual (disch := omega) [Nat.add_assoc, Int.add_assoc, if_pos, if_neg, -Int.not_lt, -Int.not_le, -Nat.not_lt, -Nat.not_le, -List.length_flatMap, Bf.nil]
  · rintro i e m x hi ⟨g1, g2, g3, g4, g5, g6, g7, g8, g9⟩
    have hk := ih l.kids[i] (List.getElem_mem hi) (ok.at hi) ps ms (d - 1) hp hm (by omega) (h4 _ (List.getElem_mem hi))
    simp +contextual (disch := omega) [Nat.add_assoc, Int.add_assoc, if_pos, if_neg, -Int.not_lt, -Int.not_le, -Nat.not_lt, -Nat.not_le, -List.length_flatMap, level_value.b1, hi, g1, g2, g3, g4, g5, g6, g7, ansK hk]
    refine g9.ap [lvS l.kids[i] ps ms] (by simp +contextual (disch := omega) [Nat.add_assoc, Int.add_assoc, if_pos, if_neg, -Int.not_lt, -Int.not_le, -Nat.not_lt, -Nat.not_le, -List.length_flatMap]) (by omega) (by omega) (by simp) rfl (by simp; omega) ?_
    intro B' ws m2 q0 q1 q2 q3
    simp +contextual (disch := omega) [Nat.add_assoc, Int.add_assoc, if_pos, if_neg, -Int.not_lt, -Int.not_le, -Nat.not_lt, -Nat.not_le, -List.length_flatMap, q0, g1, g2, g3, g4, g5, g6, g7, q2]
    exact q1.to (map_take_succ hi) (by omega)
  · rintro e m x ⟨g1, g2, g3, g4, g5, g6, g7, g8, g9⟩
    rw [List.take_length] at g9
    have hz := g9.fz24
    rw [lvS_eq]
    simp +contextual (disch := omega) [Nat.add_assoc, Int.add_assoc, if_pos, if_neg, -Int.not_lt, -Int.not_le, -Nat.not_lt, -Nat.not_le, -List.length_flatMap, level_value.b1, g1, g2, g3, g4, g5, g6, g7, ansK level_kinds.a, kinds_lk0, hz]
    have hb := fun k (hk : k ∈ l.kids) => lvS_bd k ps ms _ _ _ hp hm (h4 k hk)
    have hn := h3
    clear g9 ih
    rcases right_kind hr with h | h | h | h | h | h <;> rw [h] at h2 <;> simp [kidsS] at h2
    · simp +contextual (disch := omega) [Nat.add_assoc, Int.add_assoc, if_pos, if_neg, -Int.not_lt, -Int.not_le, -Nat.not_lt, -Nat.not_le, -List.length_flatMap, h, kindF, hz, ansK (level_kinds_1.a _ _ _ _), valK]
    · obtain ⟨a, ha⟩ := List.length_eq_one_iff.1 (by omega : l.kids.length = 1)
      have := hb a (by simp [ha])
      simp only [ha, List.map_cons, List.map_nil] at hz
      simp +contextual (disch := omega) [Nat.add_assoc, Int.add_assoc, if_pos, if_neg, -Int.not_lt, -Int.not_le, -Nat.not_lt, -Nat.not_le, -List.length_flatMap, h, kindF, hz, ha, ansK (level_kinds_2.a _ _ _ _ _), valK]
    · obtain ⟨a, b, ha⟩ := len_two (by omega : l.kids.length = 2)
      simp only [ha, List.map_cons, List.map_nil] at hz
      simp +contextual (disch := omega) [Nat.add_assoc, Int.add_assoc, if_pos, if_neg, -Int.not_lt, -Int.not_le, -Nat.not_lt, -Nat.not_le, -List.length_flatMap, h, kindF, hz, ha, ansK (level_kinds_3.a _ _ _ _ _), valK]
    · obtain ⟨a, b, ha⟩ := len_two (by omega : l.kids.length = 2)
      simp only [ha, List.map_cons, List.map_nil] at hz
      simp +contextual (disch := omega) [Nat.add_assoc, Int.add_assoc, if_pos, if_neg, -Int.not_lt, -Int.not_le, -Nat.not_lt, -Nat.not_le, -List.length_flatMap, h, kindF, hz, ha, ansK (level_kinds_4.a _ _ _ _ _), valK]
    · simp [namedS, h] at hn
      simp +contextual (disch := omega) [Nat.add_assoc, Int.add_assoc, if_pos, if_neg, -Int.not_lt, -Int.not_le, -Nat.not_lt, -Nat.not_le, -List.length_flatMap, h, kindF, hz, ansK (level_kinds_5.a _ _ _ _ hn), valK]
    · simp [namedS, h] at hn
      simp +contextual (disch := omega) [Nat.add_assoc, Int.add_assoc, if_pos, if_neg, -Int.not_lt, -Int.not_le, -Nat.not_lt, -Nat.not_le, -List.length_flatMap, h, kindF, hz, ansK (level_kinds_6.a _ _ _ _ hn), valK]

theorem level_Eval_1.a (n : Int) : Ans ctx level_Eval_1.n [.i .i64 n] (.b (oddN n)) := by
  refine ans level_Eval_1.f ?_
  simp +contextual (disch := omega) [Nat.add_assoc, Int.add_assoc, if_pos, if_neg, -Int.not_lt, -Int.not_le, -Nat.not_lt, -Nat.not_le, -List.length_flatMap, level_Eval_1.c, oddN]
/-- What a level is, by values. -/
def evalS (l : L) (ps ms : List Int) : V := if RightS l ps.length ms.length = false ∨ ps.any oddN = true ∨ ms.any oddN = true then .tu [.i .i64 0, .i .i64 1] else .tu [.i .i64 (lvS l ps ms), .i .i64 0]
theorem RightS_r {l : L} {p q : Int} (h : RightS l p q = true) : rightS l p q 12 = true := by
  unfold RightS at h
  split at h
  · cases h
  · simp at h; exact h.2
theorem level_Eval.a (l : L) (ok : l.Ok) (ps ms : List Int) (h1 : ps.length ≤ 9223372036854775807) (h2 : ms.length ≤ 9223372036854775807) : Ans ctx level_Eval.n [.ag (cL l), sV cI ps, sV cI ms] (evalS l ps ms) := by
  refine ans level_Eval.f ?_
  have c1 := slices_ContainsFunc_int.a ps level_Eval_1.n [] oddN rfl rfl (by intro D; simp) (fun k _ => level_Eval_1.a k) h1
  have c2 := slices_ContainsFunc_int.a ms level_Eval_1.n [] oddN rfl rfl (by intro D; simp) (fun k _ => level_Eval_1.a k) h2
  have hv : RightS l ps.length ms.length = true → ps.any oddN = false → ms.any oddN = false → ∀ P, AnsK ctx level_value.n [.ag (cL l), cV ps ms] P = P (.i .i64 (lvS l ps ms)) := fun h3 h4 h5 P =>
    ansK (level_value.a l ok ps ms 12 (nats_iff.1 h4) (nats_iff.1 h5) (by omega) (RightS_r h3))
  unfold evalS
  cases h3 : RightS l ps.length ms.length <;> cases h4 : ps.any oddN <;> cases h5 : ms.any oddN <;> rw [h4] at c1 <;> rw [h5] at c2
  all_goals first
    | (simp +contextual (disch := omega) [Nat.add_assoc, Int.add_assoc, if_pos, if_neg, -Int.not_lt, -Int.not_le, -Nat.not_lt, -Nat.not_le, -List.length_flatMap, level_Eval.c, ansK (level_Right.a l ok _ _), h3, ansK c1, ansK c2, hv h3 h4 h5]; done)
    | simp +contextual (disch := omega) [Nat.add_assoc, Int.add_assoc, if_pos, if_neg, -Int.not_lt, -Int.not_le, -Nat.not_lt, -Nat.not_le, -List.length_flatMap, level_Eval.c, ansK (level_Right.a l ok _ _), h3, ansK c1, ansK c2]
end Pi


set_option linter.unusedSimpArgs false
set_option linter.unusedVariables false
namespace Pi
end Pi


set_option linter.unusedSimpArgs false
set_option linter.unusedVariables false
namespace Pi
structure F where
  cst : Int
  offs : List Int
  deriving Inhabited, DecidableEq
def cF (f : F) : List V := [.i .i64 f.cst, sV cI f.offs]
@[simp] theorem cF_len (f : F) : (cF f).length = 2 := rfl
@[simp] theorem cF_fz (f : F) (D : Nat → Option (Bool × List V × List V × List Nat)) : frzL D (cF f) = some (cF f, []) := by simp [cF]
instance : Cel cF 2 := ⟨cF_len, by decide, cF_fz⟩
@[simp] theorem cF_0 (f : F) : (cF f)[0]? = some (.i .i64 f.cst) := rfl
@[simp] theorem cF_1 (f : F) : (cF f)[1]? = some (sV cI f.offs) := rfl
@[simp] theorem cF_take (f : F) : (cF f).take 2 = cF f := rfl
@[simp] theorem cF_drop (f : F) : (cF f).drop 2 = [] := rfl
/-- What flats are, in plain Lean. -/
def topF (f : F) : Int := f.offs.foldl max (-1)
def valL : List Int → List Int → Int → Int
  | n :: ns, p :: ps, o => valL ns ps (if n = -1 then o else max o (p + n))
  | _, _, o => o
theorem fmax_ge (l : List Int) (t : Int) : t ≤ l.foldl max t := by
  induction l generalizing t with
  | nil => exact Int.le_refl _
  | cons a l ih => exact Int.le_trans (by omega) (ih (max t a))
theorem fmax_mem (l : List Int) (t : Int) : ∀ a ∈ l, a ≤ l.foldl max t := by
  induction l generalizing t with
  | nil => intro a ha; cases ha
  | cons b l ih =>
    intro a ha
    rcases List.mem_cons.1 ha with rfl | ha
    · exact Int.le_trans (by omega) (fmax_ge l (max t a))
    · exact ih _ a ha
theorem fmax_le (l : List Int) (t M : Int) (ht : t ≤ M) (h : ∀ a ∈ l, a ≤ M) : l.foldl max t ≤ M := by
  induction l generalizing t with
  | nil => exact ht
  | cons b l ih => exact ih _ (by have := h b (by simp); omega) (fun a ha => h a (by simp [ha]))
theorem fmax_at (l : List Int) (t : Int) : l.foldl max t = t ∨ l.foldl max t ∈ l := by
  induction l generalizing t with
  | nil => exact .inl rfl
  | cons b l ih =>
    rcases ih (max t b) with h | h
    · simp only [List.foldl_cons, h]
      by_cases hb : b ≤ t
      · left; omega
      · right; simp; left; omega
    · right; simp [h]
end Pi


set_option linter.unusedSimpArgs false
set_option linter.unusedVariables false
namespace Pi
theorem slices_Max_int.a (a : Int) (l : List Int) (hl : l.length ≤ 1000000) : Ans ctx slices_Max_int.n [sV cI (a :: l)] (.i .i64 (l.foldl max a)) := by
  refine ans slices_Max_int.f ?_
  simp +contextual (disch := omega) [Nat.add_assoc, Int.add_assoc, if_pos, if_neg, -Int.not_lt, -Int.not_le, -Nat.not_lt, -Nat.not_le, -List.length_flatMap, slices_Max_int.c]
  refine for_w (fun i e m x => e 0 = sV cI (a :: l) ∧ e 3 = .i .i64 ((l.take i).foldl max a) ∧ e 4 = .i .i64 (i + 1)) l.length ?_ ?_ ?_
  · simp +contextual (disch := omega) [Nat.add_assoc, Int.add_assoc, if_pos, if_neg, -Int.not_lt, -Int.not_le, -Nat.not_lt, -Nat.not_le, -List.length_flatMap]
  · rintro i e m x hi ⟨g0, g3, g4⟩
    simp +contextual (disch := omega) [Nat.add_assoc, Int.add_assoc, if_pos, if_neg, -Int.not_lt, -Int.not_le, -Nat.not_lt, -Nat.not_le, -List.length_flatMap, slices_Max_int.b1, g0, g3, g4, hi, take_fold]
  · rintro e m x ⟨g0, g3, g4⟩
    rw [List.take_length] at g3
    simp +contextual (disch := omega) [Nat.add_assoc, Int.add_assoc, if_pos, if_neg, -Int.not_lt, -Int.not_le, -Nat.not_lt, -Nat.not_le, -List.length_flatMap, slices_Max_int.b1, g0, g3, g4]
theorem flat_Top.a (f : F) (hl : f.offs.length ≤ 1000000) : Ans ctx flat_Top.n [.ag (cF f)] (.i .i64 (topF f)) := by
  refine ans flat_Top.f ?_
  have h := slices_Max_int.a (-1) f.offs hl
  simp +contextual (disch := omega) [Nat.add_assoc, Int.add_assoc, if_pos, if_neg, -Int.not_lt, -Int.not_le, -Nat.not_lt, -Nat.not_le, -List.length_flatMap, flat_Top.c, -apV_ms]
  refine (Bf.mem (f := cI) (k := 1) (lo := 2) (x := 3) (l := [-1]) (cs := [.i .i64 (-1)]) (by rw [Sto.seq]) rfl rfl (by omega) (by omega)).ap f.offs (fun j _ _ => rfl) (by omega) (by omega) rfl rfl (by simp; omega) ?_
  intro B' ws m2 z0 z1 _ _
  have hz := z1.fz24
  rw [List.singleton_append] at hz
  simp +contextual (disch := omega) [Nat.add_assoc, Int.add_assoc, if_pos, if_neg, -Int.not_lt, -Int.not_le, -Nat.not_lt, -Nat.not_le, -List.length_flatMap, z0, z1.stor, z1.cells, hz, ansK h, topF]
end Pi


set_option linter.unusedSimpArgs false
set_option linter.unusedVariables false
namespace Pi
theorem math_bits_Mul64.a (n : Nat) (hn : n ≤ 5) : Ans ctx math_bits_Mul64.n [.i .u64 1, .i .u64 n] (.tu [.i .u64 0, .i .u64 n]) := by
  have : n = 0 ∨ n = 1 ∨ n = 2 ∨ n = 3 ∨ n = 4 ∨ n = 5 := by omega
  rcases this with rfl | rfl | rfl | rfl | rfl | rfl <;> exact ans_told (n := 200) (by kernel_rfl)
theorem math_bits_Mul.a (n : Nat) (hn : n ≤ 5) : Ans ctx math_bits_Mul.n [.i .u64 1, .i .u64 n] (.tu [.i .u64 0, .i .u64 n]) := by
  refine ans math_bits_Mul.f ?_
  simp +contextual (disch := omega) [Nat.add_assoc, Int.add_assoc, if_pos, if_neg, -Int.not_lt, -Int.not_le, -Nat.not_lt, -Nat.not_le, -List.length_flatMap, math_bits_Mul.c, ansK (math_bits_Mul64.a n hn)]
set_option maxHeartbeats 1000000 in
theorem slices_Repeat_int.w {m : Sto} {x a : Nat} {K : CR → Sto → Nat → Prop} (n : Nat) (hn : n ≤ 5) (ha : m a = some (.cells [.i .i64 (-1)] false)) (hax : a < x)
    (hK : ∀ B m' x', x + 22 ≤ x' → (∀ j, j ≠ x + 21 → m' j = m j) → (n = 0 ∧ B = .ns ∧ m' = m ∨ n ≠ 0 ∧ B = .ms (x + 21) 0 n 1 ∧ m' (x + 21) = some (.cells ((List.replicate n (-1)).flatMap cI) false)) → K (.ret B) m' x') :
    w ctx (envOf [.ms a 0 1 1, .i .i64 n]) m x [] none none (RetG ctx slices_Repeat_int.c.rs K) slices_Repeat_int.c.code := by
  have hM := math_bits_Mul.a n hn
  simp +contextual (disch := omega) [Nat.add_assoc, Int.add_assoc, if_pos, if_neg, -Int.not_lt, -Int.not_le, -Nat.not_lt, -Nat.not_le, -List.length_flatMap, slices_Repeat_int.c, ansK hM, ha]
  have : n = 0 ∨ n = 1 ∨ n = 2 ∨ n = 3 ∨ n = 4 ∨ n = 5 := by omega
  rcases this with rfl | rfl | rfl | rfl | rfl | rfl
  all_goals
    simp +contextual (disch := omega) [Nat.add_assoc, Int.add_assoc, if_pos, if_neg, -Int.not_lt, -Int.not_le, -Nat.not_lt, -Nat.not_le, -List.length_flatMap, ha]
    repeat (refine un_w ?_; simp +contextual (disch := omega) [Nat.add_assoc, Int.add_assoc, if_pos, if_neg, -Int.not_lt, -Int.not_le, -Nat.not_lt, -Nat.not_le, -List.length_flatMap, slices_Repeat_int.b1])
  · exact hK _ _ _ (by omega) (fun j hj => rfl) (.inl ⟨rfl, rfl, rfl⟩)
  all_goals exact hK _ _ _ (by omega) (fun j hj => by repeat rw [Sto.sne _ _ _ _ hj]) (.inr ⟨by omega, rfl, by rw [Sto.seq]; rfl⟩)
/-- A list of numbers in memory of its own, all of it. -/
def Ex (m : Sto) (B : V) (l : List Int) (lo x : Nat) : Prop := (B = .ns ∧ l = []) ∨ ∃ a, B = .ms a 0 l.length 1 ∧ m a = some (.cells (l.flatMap cI) false) ∧ lo ≤ a ∧ a < x
theorem Ex.bf {m : Sto} {B : V} {l : List Int} {lo x : Nat} (h : Ex m B l lo x) : Bf m B cI 1 l lo x := by
  rcases h with ⟨rfl, rfl⟩ | ⟨a, rfl, h1, h2, h3⟩
  · exact Bf.nil
  · exact .mem h1 rfl rfl h2 h3
theorem Ex.up {m m' : Sto} {B : V} {l : List Int} {lo lo' x x' : Nat} (h : Ex m B l lo x) (hl : lo' ≤ lo) (hx : x ≤ x') (hm : ∀ j, lo ≤ j → j < x → m' j = m j) : Ex m' B l lo' x' := by
  rcases h with h | ⟨a, e, h1, h2, h3⟩
  · exact .inl h
  · exact .inr ⟨a, e, by rw [hm a h2 h3, h1], by omega, by omega⟩
theorem Ex.stor {m : Sto} {B : V} {l : List Int} {lo x : Nat} (h : Ex m B l lo x) : B.stor = true ∧ B.cells = [B] ∧ lenSl B = some l.length := by
  rcases h with ⟨rfl, rfl⟩ | ⟨a, rfl, _⟩ <;> exact ⟨rfl, rfl, rfl⟩
theorem Ex.over {m : Sto} {B : V} {l : List Int} {lo x y : Nat} (h : Ex m B l lo x) (hy : y ≤ lo) : B.over y = true := by
  rcases h with ⟨rfl, rfl⟩ | ⟨a, rfl, _, h2, _⟩
  · rfl
  · simp [V.over]; omega
theorem Ex.ref {m : Sto} {B : V} {l : List Int} {lo x j : Nat} (h : Ex m B l lo x) (hj : j ∈ refOf B) : lo ≤ j ∧ j < x := by
  rcases h with ⟨rfl, rfl⟩ | ⟨a, rfl, _, h2, h3⟩
  · simp [refOf] at hj
  · simp [refOf] at hj; omega
theorem IfK_neg {p a b : Prop} (h : ¬ p) : IfK p a b = b := by simp [IfK, h]
theorem Own.eq {m m' : Sto} {y s : Nat} (h : Own m y) (hm : ∀ j, j ≠ s → m' j = m j) (hs : ownO y (m' s) = true) : Own m' y := by
  intro j hj
  by_cases e : j = s
  · rw [e]; exact hs
  · rw [hm j e]; exact h j hj
theorem flat_plain.w {m : Sto} {x : Nat} {K : CR → Sto → Nat → Prop} (c : Int) (p : Nat) (hp : p ≤ 5)
    (hK : ∀ B m' x', x ≤ x' → (∀ j, j < x → m' j = m j) → Ex m' B (List.replicate p (-1)) x x' → (∀ y, y ≤ x → Own m y → Own m' y) → K (.ret (.ag [.i .i64 c, B])) m' x') :
    w ctx (envOf [.i .i64 c, .i .i64 p]) m x [] none none (RetG ctx flat_plain.c.rs K) flat_plain.c.code := by
  simp +contextual (disch := omega) [Nat.add_assoc, Int.add_assoc, if_pos, if_neg, -Int.not_lt, -Int.not_le, -Nat.not_lt, -Nat.not_le, -List.length_flatMap, flat_plain.c]
  rw [CallX_op (by rfl)]
  refine openg_w rfl rfl (.inl rfl) ?_
  have hfo : ctx.frz slices_Repeat_int.n = false := rfl
  rw [hfo]
  refine slices_Repeat_int.w (a := x + 2) p hp (by rw [Sto.seq]) (by omega) ?_
  intro B m1 x1 hx1 hm1 hB
  have h0 : m1 x = some (.cells [.i .i64 0, .ns] false) := by rw [hm1 x (by omega)]; simp +contextual (disch := omega) [Nat.add_assoc, Int.add_assoc, if_pos, if_neg, -Int.not_lt, -Int.not_le, -Nat.not_lt, -Nat.not_le, -List.length_flatMap]
  have hst : B.stor = true ∧ B.cells = [B] := by
    rcases hB with ⟨_, rfl, _⟩ | ⟨_, rfl, _⟩ <;> exact ⟨rfl, rfl⟩
  have hov : ∀ y, y ≤ x → B.over y = true := fun y hy => by
    rcases hB with ⟨_, rfl, _⟩ | ⟨_, rfl, _⟩
    · rfl
    · simp [V.over]; omega
  simp +contextual (disch := omega) [Nat.add_assoc, Int.add_assoc, if_pos, if_neg, -Int.not_lt, -Int.not_le, -Nat.not_lt, -Nat.not_le, -List.length_flatMap, h0, hst.1, hst.2]
  refine hK B _ _ (by omega) (fun j hj => by rw [Sto.sne _ _ _ _ (by omega), hm1 j (by omega), Sto.sne _ _ _ _ (by omega), Sto.sne _ _ _ _ (by omega)]) ?_ (fun y hy ho => ?_)
  · rcases hB with ⟨h, rfl, _⟩ | ⟨h, rfl, hc⟩
    · rw [h]; exact .inl ⟨rfl, rfl⟩
    · exact .inr ⟨x + 4 + 21, by simp, by rw [Sto.sne _ _ _ _ (by omega), hc], by omega, by omega⟩
  · have o1 := (ho.set (l := x) (o := some (.cells [.i .i64 0, .ns] false)) (by simp [ownO, overL, V.over])).set (l := x + 2) (o := some (.cells [.i .i64 (-1)] false)) (by simp [ownO, overL, V.over])
    refine Own.set ?_ (by simp [ownO, overL, V.over, hov y hy])
    rcases hB with ⟨_, _, rfl⟩ | ⟨h, _, hc⟩
    · exact o1
    · refine o1.eq hm1 ?_
      rw [hc]
      exact over_cI y _
def upO (n : Int) : Int := if n = -1 then n else n + 1
def succF (f : F) : F := ⟨f.cst + 1, f.offs.map upO⟩
theorem upO_step {l : List Int} {i : Nat} (hi : i < l.length) : ((l.take i).map upO ++ l.drop i).set i (upO l[i]) = (l.take (i + 1)).map upO ++ l.drop (i + 1) := by
  rw [List.set_append_right _ _ (by simp; omega), List.length_map, List.length_take, Nat.min_eq_left (by omega), Nat.sub_self, List.drop_eq_getElem_cons hi, List.set_cons_zero, List.take_succ_eq_append_getElem hi, List.map_append, List.append_assoc]
  rfl
theorem flat_succ.w {m : Sto} {x lo : Nat} {K : CR → Sto → Nat → Prop} (f : F) (B : V) (hB : Ex m B f.offs lo x) (hlo : lo ≤ x) (hc : 0 ≤ f.cst ∧ f.cst ≤ 1000) (ho : ∀ a ∈ f.offs, -1 ≤ a ∧ a ≤ 1000) (hl : f.offs.length ≤ 1000)
    (hK : ∀ m' x', x ≤ x' → (∀ j, j < lo → m' j = m j) → Ex m' B (succF f).offs lo x' → (∀ y, y ≤ lo → Own m y → Own m' y) → K (.ret (.ag [.i .i64 (f.cst + 1), B])) m' x') :
    w ctx (envOf [.ag [.i .i64 f.cst, B]]) m x [] none none (RetG ctx flat_succ.c.rs K) flat_succ.c.code := by
  rcases hB with ⟨rfl, he⟩ | ⟨a, rfl, h1, h2, h3⟩
  · simp +contextual (disch := omega) [Nat.add_assoc, Int.add_assoc, if_pos, if_neg, -Int.not_lt, -Int.not_le, -Nat.not_lt, -Nat.not_le, -List.length_flatMap, flat_succ.c]
    refine un_w ?_
    simp +contextual (disch := omega) [Nat.add_assoc, Int.add_assoc, if_pos, if_neg, -Int.not_lt, -Int.not_le, -Nat.not_lt, -Nat.not_le, -List.length_flatMap, flat_succ.b1]
    refine hK _ _ (by omega) (fun j hj => by simp +contextual (disch := omega) [Nat.add_assoc, Int.add_assoc, if_pos, if_neg, -Int.not_lt, -Int.not_le, -Nat.not_lt, -Nat.not_le, -List.length_flatMap]) (.inl ⟨rfl, by simp [succF, he]⟩) (fun y hy h => ?_)
    exact (((h.set (l := x) (by simp [ownO, overL, V.over])).set (l := x + 1) (by simp [ownO, overL, V.over])).set (l := x) (by simp [ownO, overL, V.over])).set (l := x + 1) (by simp [ownO, overL, V.over])
  · obtain ⟨N, hN⟩ : ∃ N, N = f.offs.length := ⟨_, rfl⟩
    rw [← hN] at hK ⊢
    simp +contextual (disch := omega) [Nat.add_assoc, Int.add_assoc, if_pos, if_neg, -Int.not_lt, -Int.not_le, -Nat.not_lt, -Nat.not_le, -List.length_flatMap, flat_succ.c]
    refine for_w (fun i e m' x' => e 1 = .p x 0 ∧ e 2 = .p (x + 1) 0 ∧ e 10 = .ms a 0 N 1 ∧ e 11 = .i .i64 N ∧ e 12 = .i .i64 i ∧ x + 11 ≤ x' ∧ m' x = some (.cells [.i .i64 (f.cst + 1), .ms a 0 N 1] false) ∧ m' (x + 1) = some (.cells [.i .i64 0, .ns] false) ∧
      m' a = some (.cells (((f.offs.take i).map upO ++ f.offs.drop i).flatMap cI) false) ∧ (∀ j, j < lo → m' j = m j) ∧ (∀ y, y ≤ lo → Own m y → Own m' y)) N ?_ ?_ ?_
    · simp +contextual (disch := omega) [Nat.add_assoc, Int.add_assoc, if_pos, if_neg, -Int.not_lt, -Int.not_le, -Nat.not_lt, -Nat.not_le, -List.length_flatMap, h1]
      refine fun y hy h => ?_
      have hya : y ≤ a := by omega
      exact ((h.set (l := x) (by simp [ownO, overL, hya, V.over])).set (l := x + 1) (by simp [ownO, overL, V.over])).set (l := x) (by simp [ownO, overL, hya, V.over])
    · rintro i e m' x' hi ⟨g1, g2, g10, g11, g12, gx, y0, y1, ya, gl, go⟩
      have hi' : i < f.offs.length := by omega
      have hoi := ho _ (List.getElem_mem hi')
      obtain ⟨o, hoe⟩ : ∃ o, o = (f.offs.take i).map upO ++ f.offs.drop i := ⟨_, rfl⟩
      rw [← hoe] at ya
      have hlen : o.length = N := by rw [hoe]; simp; omega
      have hat : ∀ h : i < o.length, o[i] = f.offs[i] := by
        subst hoe
        intro h
        rw [List.getElem_append_right (by simp; omega)]
        simp [List.length_take, Nat.min_eq_left (Nat.le_of_lt hi')]
      have hst : o.set i (upO f.offs[i]) = (f.offs.take (i + 1)).map upO ++ f.offs.drop (i + 1) := by rw [hoe]; exact upO_step hi'
      have hcl : (o.flatMap cI).length = o.length := flatI_len o
      have hiL : i < o.length := by omega
      have hat' : ∀ h : i < (o.flatMap cI).length, (o.flatMap cI)[i] = V.i .i64 f.offs[i] := fun h => by rw [flatI_get h, hat]
      obtain ⟨o2, ho2⟩ : ∃ o2, o2 = (f.offs.take (i + 1)).map upO ++ f.offs.drop (i + 1) := ⟨_, rfl⟩
      rw [← ho2] at hst ⊢
      by_cases hm : f.offs[i] = -1
      · have e1 : upO f.offs[i] = f.offs[i] := by unfold upO; rw [if_pos hm]
        have e2 : o.set i f.offs[i] = o := by rw [← hat hiL]; exact List.set_getElem_self hiL
        rw [e1, e2] at hst
        subst hst
        simp +contextual (disch := omega) [Nat.add_assoc, Int.add_assoc, if_pos, if_neg, -Int.not_lt, -Int.not_le, -Nat.not_lt, -Nat.not_le, -List.length_flatMap, flat_succ.b1, g1, g2, g10, g11, g12, y0, y1, ya, hi, hlen, hcl, hat', hm]
        exact ⟨by omega, gl, go⟩
      · have e1 : upO f.offs[i] = f.offs[i] + 1 := by unfold upO; rw [if_neg hm]
        rw [e1] at hst
        simp +contextual (disch := omega) [Nat.add_assoc, Int.add_assoc, if_pos, if_neg, -Int.not_lt, -Int.not_le, -Nat.not_lt, -Nat.not_le, -List.length_flatMap, flat_succ.b1, g1, g2, g10, g11, g12, y0, y1, ya, hi, hlen, hcl, hat', hm]
        rw [flatI_set hiL, hst]
        exact ⟨by omega, rfl, gl, fun y hy h => (go y hy h).set (over_cI y _)⟩
    · rintro e m' x' ⟨g1, g2, g10, g11, g12, gx, y0, y1, ya, gl, go⟩
      rw [hN, List.take_length, List.drop_of_length_le (Nat.le_refl _), List.append_nil] at ya
      simp +contextual (disch := omega) [Nat.add_assoc, Int.add_assoc, if_pos, if_neg, -Int.not_lt, -Int.not_le, -Nat.not_lt, -Nat.not_le, -List.length_flatMap, flat_succ.b1, g1, g2, g10, g11, g12, y0, y1]
      refine hK _ _ (by omega) (fun j hj => by rw [Sto.sne _ _ _ _ (by omega), gl j hj]) (.inr ⟨a, by simp [succF, hN], by rw [Sto.sne _ _ _ _ (by omega), ya]; rfl, h2, by omega⟩) (fun y hy h => ?_)
      exact (go y hy h).set (by simp [ownO, overL, V.over]; omega)
end Pi


set_option linter.unusedSimpArgs false
set_option linter.unusedVariables false
namespace Pi
def zipM : List Int → List Int → List Int
  | a :: l, b :: r => max a b :: zipM l r
  | _, _ => []
theorem zipM_len : ∀ {a b : List Int}, a.length = b.length → (zipM a b).length = a.length
  | [], [], _ => rfl
  | _ :: a, _ :: b, h => by simp [zipM, zipM_len (by simpa using h : a.length = b.length)]
  | [], _ :: _, h => by simp at h
  | _ :: _, [], h => by simp at h
theorem zipM_at : ∀ {a b : List Int} {i : Nat} (h1 : i < a.length) (h2 : i < b.length), (zipM (a.take i) (b.take i) ++ a.drop i).set i (max a[i] b[i]) = zipM (a.take (i + 1)) (b.take (i + 1)) ++ a.drop (i + 1)
  | x :: a, y :: b, 0, _, _ => by simp [zipM]
  | x :: a, y :: b, i + 1, h1, h2 => by
    have := zipM_at (a := a) (b := b) (i := i) (by simpa using h1) (by simpa using h2)
    simp only [List.take_succ_cons, zipM, List.drop_succ_cons, List.cons_append, List.set_cons_succ, List.getElem_cons_succ, this]
  | [], _, _, h, _ => by simp at h
  | _ :: _, [], _, _, h => by simp at h
theorem zipM_get : ∀ {a b : List Int} {i : Nat} (h1 : i < a.length) (h2 : i < b.length), (zipM (a.take i) (b.take i) ++ a.drop i)[i]? = some a[i]
  | x :: a, y :: b, 0, _, _ => by simp [zipM]
  | x :: a, y :: b, i + 1, h1, h2 => by
    have := zipM_get (a := a) (b := b) (i := i) (by simpa using h1) (by simpa using h2)
    simp only [List.take_succ_cons, zipM, List.drop_succ_cons, List.cons_append, List.getElem?_cons_succ, List.getElem_cons_succ, this]
  | [], _, _, h, _ => by simp at h
  | _ :: _, [], _, _, h => by simp at h
def joinF (f g : F) : F := ⟨max f.cst g.cst, zipM f.offs g.offs⟩
set_option maxHeartbeats 1000000 in
theorem flat_join.w {m : Sto} {x lo b : Nat} {K : CR → Sto → Nat → Prop} (f g : F) (B C : V) (hB : Ex m B f.offs lo x) (hC : Ex m C g.offs lo x) (hlo : lo ≤ x) (hl : f.offs.length = g.offs.length) (hl2 : f.offs.length ≤ 1000) (hb : m b = some (.cells [.i .i64 g.cst, C] false)) (hbx : b < x)
    (hK : ∀ D m' x', x ≤ x' → (∀ j, j < x → m' j = m j) → Ex m' D (joinF f g).offs x x' → (∀ y, y ≤ lo → Own m y → Own m' y) → K (.ret (.ag [.i .i64 (joinF f g).cst, D])) m' x') :
    w ctx (envOf [.ag [.i .i64 f.cst, B], .ms b 0 1 2]) m x [] none none (RetG ctx flat_join.c.rs K) flat_join.c.code := by
  obtain ⟨u1, u2, u3⟩ := hB.stor
  obtain ⟨v1, v2, v3⟩ := hC.stor
  by_cases h0 : f.offs.length = 0
  · have hf : f.offs = [] := List.eq_nil_of_length_eq_zero h0
    have hg : g.offs = [] := List.eq_nil_of_length_eq_zero (by omega)
    have s1 := (Rl.Bf hB.bf).sl ((m.set x (some (.cells [.i .i64 f.cst, B] false))).set (x + 1) (some (.cells [.i .i64 0, .ns] false))) (.eq fun j hj => by have := hj.2; rw [Sto.sne _ _ _ _ (by omega), Sto.sne _ _ _ _ (by omega)])
    rw [hf] at s1 u3
    rw [hg] at v3
    simp +contextual (disch := omega) [Nat.add_assoc, Int.add_assoc, if_pos, if_neg, -Int.not_lt, -Int.not_le, -Nat.not_lt, -Nat.not_le, -List.length_flatMap, flat_join.c, s1, u1, u2, u3, hb]
    rw [IfK_neg (show ¬ x + 8 ∈ refOf B from fun h => by have := hB.ref h; omega)]
    refine un_w ?_
    simp +contextual (disch := omega) [Nat.add_assoc, Int.add_assoc, if_pos, if_neg, -Int.not_lt, -Int.not_le, -Nat.not_lt, -Nat.not_le, -List.length_flatMap, flat_join.b2, hb, v1, v2, v3]
    refine un_w ?_
    simp +contextual (disch := omega) [Nat.add_assoc, Int.add_assoc, if_pos, if_neg, -Int.not_lt, -Int.not_le, -Nat.not_lt, -Nat.not_le, -List.length_flatMap, flat_join.b1]
    refine un_w ?_
    simp +contextual (disch := omega) [Nat.add_assoc, Int.add_assoc, if_pos, if_neg, -Int.not_lt, -Int.not_le, -Nat.not_lt, -Nat.not_le, -List.length_flatMap, flat_join.b2]
    refine hK .ns _ _ (by omega) (fun j hj => ?_) (.inl ⟨rfl, by simp [joinF, hf, zipM]⟩) (fun y hy h => ?_)
    · simp +contextual (disch := omega) [Nat.add_assoc, Int.add_assoc, if_pos, if_neg, -Int.not_lt, -Int.not_le, -Nat.not_lt, -Nat.not_le, -List.length_flatMap]
    · have o1 := hB.over hy
      have o2 := hC.over hy
      repeat refine Own.set ?_ (by simp [ownO, overL, V.over, o1, o2])
      exact h
  · rcases hB with ⟨_, h⟩ | ⟨a1, rfl, p1, p2, p3⟩
    · rw [h] at h0; simp at h0
    rcases hC with ⟨_, h⟩ | ⟨a2, rfl, q1, q2, q3⟩
    · rw [h] at hl; exact (h0 hl).elim
    have hfl : (f.offs.flatMap cI).length = f.offs.length := flatI_len _
    have hgl : (g.offs.flatMap cI).length = g.offs.length := flatI_len _
    obtain ⟨N, hN⟩ : ∃ N, N = f.offs.length := ⟨_, rfl⟩
    rw [← hl, ← hN] at hb
    rw [← hN] at h0 hfl ⊢
    simp +contextual (disch := omega) [Nat.add_assoc, Int.add_assoc, if_pos, if_neg, -Int.not_lt, -Int.not_le, -Nat.not_lt, -Nat.not_le, -List.length_flatMap, flat_join.c, hb, p1, q1, hfl, h0]
    refine un_w ?_
    simp +contextual (disch := omega) [Nat.add_assoc, Int.add_assoc, if_pos, if_neg, -Int.not_lt, -Int.not_le, -Nat.not_lt, -Nat.not_le, -List.length_flatMap, flat_join.b2, hb, p1, q1, hfl, h0]
    refine for_w (fun i e m' x' => e 4 = .p (x + 1) 0 ∧ e 5 = .p (x + 8) 0 ∧ e 17 = .i .i64 1 ∧ e 18 = .i .i64 0 ∧ e 29 = .ms a2 0 N 1 ∧ e 30 = .i .i64 N ∧ e 31 = .i .i64 i ∧ x + 17 ≤ x' ∧ m' (x + 1) = some (.cells [.i .i64 0, .ns] false) ∧
      m' (x + 8) = some (.cells [.i .i64 (max f.cst g.cst), .ms (x + 6) 0 N 1] false) ∧ m' (x + 6) = some (.cells ((zipM (f.offs.take i) (g.offs.take i) ++ f.offs.drop i).flatMap cI) false) ∧ (∀ j, j < x → m' j = m j) ∧ (∀ y, y ≤ lo → Own m y → Own m' y)) N ?_ ?_ ?_
    · have htk := flatI_all hN
      simp +contextual (disch := omega) [Nat.add_assoc, Int.add_assoc, if_pos, if_neg, -Int.not_lt, -Int.not_le, -Nat.not_lt, -Nat.not_le, -List.length_flatMap, htk, zipM]
      refine fun y hy h => ?_
      have hy1 : y ≤ a1 := by omega
      have hy2 : y ≤ a2 := by omega
      have hy3 : y ≤ x + 6 := by omega
      repeat refine Own.set ?_ (by first | exact over_cI y _ | simp [ownO, overL, V.over, hy1, hy2, hy3])
      exact h
    · rintro i e m' x' hi ⟨g4, g5, g17, g18, g29, g30, g31, gx, y1, y8, y6, gm, go⟩
      have hi1 : i < f.offs.length := by omega
      have hi2 : i < g.offs.length := by omega
      have q1' : m' a2 = some (.cells (g.offs.flatMap cI) false) := by rw [gm a2 q3, q1]
      have hzs := zipM_at hi1 hi2
      have hzg := zipM_get hi1 hi2
      have hzl : (zipM (f.offs.take i) (g.offs.take i) ++ f.offs.drop i).length = N := by
        rw [List.length_append, zipM_len (by simp [List.length_take]; omega)]
        simp; omega
      obtain ⟨o, hoe⟩ : ∃ o, o = zipM (f.offs.take i) (g.offs.take i) ++ f.offs.drop i := ⟨_, rfl⟩
      rw [← hoe] at hzs hzg hzl y6
      have hol : (o.flatMap cI).length = N := by rw [flatI_len, hzl]
      have hat : ∀ h : i < (o.flatMap cI).length, (o.flatMap cI)[i] = V.i .i64 f.offs[i] := fun h => by
        rw [flatI_get h]
        rw [List.getElem?_eq_getElem (by omega)] at hzg
        simp only [Option.some.injEq] at hzg
        rw [hzg]
      have hat2 : ∀ h : i < (g.offs.flatMap cI).length, (g.offs.flatMap cI)[i] = V.i .i64 g.offs[i] := fun h => flatI_get h
      have hgl2 : (g.offs.flatMap cI).length = N := by rw [flatI_len]; omega
      simp +contextual (disch := omega) [Nat.add_assoc, Int.add_assoc, if_pos, if_neg, -Int.not_lt, -Int.not_le, -Nat.not_lt, -Nat.not_le, -List.length_flatMap, flat_join.b1, g4, g5, g17, g18, g29, g30, g31, y1, y8, y6, q1', hi, hol, hat, hat2, hgl2]
      refine ⟨by omega, ?_, gm, fun y hy h => ?_⟩
      · rw [flatI_set (by omega), hzs, List.flatMap_append]
      · refine (go y hy h).set ?_
        rw [flatI_set (by omega)]
        exact over_cI y _
    · rintro e m' x' ⟨g4, g5, g17, g18, g29, g30, g31, gx, y1, y8, y6, gm, go⟩
      simp +contextual (disch := omega) [Nat.add_assoc, Int.add_assoc, if_pos, if_neg, -Int.not_lt, -Int.not_le, -Nat.not_lt, -Nat.not_le, -List.length_flatMap, flat_join.b1, g4, g5, g17, g18, g29, g30, g31]
      refine un_w ?_
      simp +contextual (disch := omega) [Nat.add_assoc, Int.add_assoc, if_pos, if_neg, -Int.not_lt, -Int.not_le, -Nat.not_lt, -Nat.not_le, -List.length_flatMap, flat_join.b2, g4, g5, g17, g18, y1, y8]
      rw [hN, List.take_length, hl, List.take_length, ← hl, List.drop_of_length_le (Nat.le_refl _), List.append_nil] at y6
      refine hK _ _ _ (by omega) (fun j hj => by rw [Sto.sne _ _ _ _ (by omega), gm j hj]) (.inr ⟨x + 6, ?_, by rw [Sto.sne _ _ _ _ (by omega), y6]; rfl, by omega, by omega⟩) (fun y hy h => ?_)
      · simp only [joinF]
        rw [zipM_len hl, hN]
      · have hy3 : y ≤ x + 6 := by omega
        exact (go y hy h).set (by simp [ownO, overL, V.over, hy3])
end Pi

