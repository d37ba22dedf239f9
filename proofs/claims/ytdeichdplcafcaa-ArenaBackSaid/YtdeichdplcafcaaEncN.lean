/- Nodes of arenas: how they fill cells. -/
import Derived.Test.YtdeichdplcafcaaCRl
import Derived.Test.YtdeichdplcafcaaC02c
set_option linter.unusedSimpArgs false
set_option linter.unusedVariables false
namespace Pi
structure N where
  kind : Int
  n : Int
  a : Int
  b : Int
  deriving Inhabited, DecidableEq
def cN (x : N) : List V := [.i .i64 x.kind, .i .i64 x.n, .i .i64 x.a, .i .i64 x.b]
@[simp] theorem cN_len (x : N) : (cN x).length = 4 := rfl
@[simp] theorem cN_fz (x : N) (D : Nat → Option (Bool × List V × List V × List Nat)) : frzL D (cN x) = some (cN x, []) := by simp [cN]
instance : Cel cN 4 := ⟨cN_len, by decide, cN_fz⟩
@[simp] theorem cN_0 (x : N) : (cN x)[0]? = some (.i .i64 x.kind) := rfl
@[simp] theorem cN_1 (x : N) : (cN x)[1]? = some (.i .i64 x.n) := rfl
@[simp] theorem cN_2 (x : N) : (cN x)[2]? = some (.i .i64 x.a) := rfl
@[simp] theorem cN_3 (x : N) : (cN x)[3]? = some (.i .i64 x.b) := rfl
@[simp] theorem cN_take (x : N) : (cN x).take 4 = cN x := rfl
@[simp] theorem cN_drop (x : N) : (cN x).drop 4 = [] := rfl
/-- Lists of bytes. -/
def cY (l : List Nat) : List V := [sV cU l]
@[simp] theorem cY_len (x : List Nat) : (cY x).length = 1 := rfl
@[simp] theorem cY_fz (x : List Nat) (D : Nat → Option (Bool × List V × List V × List Nat)) : frzL D (cY x) = some (cY x, []) := by simp [cY]
instance : Cel cY 1 := ⟨cY_len, by decide, cY_fz⟩
@[simp] theorem cY_0 (x : List Nat) : (cY x)[0]? = some (sV cU x) := rfl
theorem eqN (x y : N) : eqQ (.many [.i, .i, .i, .i]) (.ag (cN x)) (.ag (cN y)) = some (decide (x = y)) := by
  obtain ⟨k, n, a, b⟩ := x
  obtain ⟨k', n', a', b'⟩ := y
  simp only [eqQ, cN, eqL, eqK, Option.bind_some, N.mk.injEq]
  by_cases h1 : k = k' <;> by_cases h2 : n = n' <;> by_cases h3 : a = a' <;> by_cases h4 : b = b' <;> simp [h1, h2, h3, h4]
/-! Maps in memory. -/
def muF (o : Option (Option Nat)) (l : Nat) (ks vs : List V) (k v : V) : Option (V × Ws) := match o with
  | some (some j) => some (.un, [(l, some (.map ks (vs.set j v) false))])
  | some none => some (.un, [(l, some (.map (ks ++ [k]) (vs ++ [v]) false))])
  | none => none
@[simp] theorem muF_at (j l : Nat) (ks vs : List V) (k v : V) : muF (some (some j)) l ks vs k v = some (.un, [(l, some (.map ks (vs.set j v) false))]) := (rfl)
@[simp] theorem muF_new (l : Nat) (ks vs : List V) (k v : V) : muF (some none) l ks vs k v = some (.un, [(l, some (.map (ks ++ [k]) (vs ++ [v]) false))]) := (rfl)
@[simp] theorem muO_map (q : Pi.Q) (l : Nat) (k v : V) (ks vs : List V) : muO (some (.map ks vs false)) q l k v = muF (findIn q k ks) l ks vs k v := by
  have h : muO (some (.map ks vs false)) q l k v = (findIn q k ks).map (fun o => match o with
    | some j => (.un, [(l, some (.map ks (vs.set j v) false))])
    | none => (.un, [(l, some (.map (ks ++ [k]) (vs ++ [v]) false))])) := (rfl)
  rw [h]
  cases findIn q k ks with
  | none => rfl
  | some o => cases o <;> rfl
/-- Where a node stands, of some. -/
def posN (x : N) : List N → Nat → Option Nat
  | [], _ => none
  | y :: l, j => if x = y then some j else posN x l (j + 1)
theorem findN (x : N) : ∀ (l : List N) (j : Nat), find (.many [.i, .i, .i, .i]) (.ag (cN x)) (l.map fun y => V.ag (cN y)) j = some (posN x l j)
  | [], j => rfl
  | y :: l, j => by
    rw [List.map_cons, find, eqN, posN, Option.bind_some]
    by_cases h : x = y
    · simp [h]
    · simp [h, findN x l]
@[simp] theorem findInN (x : N) (l : List N) : findIn (.many [.i, .i, .i, .i]) (.ag (cN x)) (l.map fun y => V.ag (cN y)) = some (posN x l 0) := by
  unfold findIn
  rw [eqN, Option.isSome_some, if_pos rfl, findN]
theorem posN_none {x : N} : ∀ {l : List N} {j : Nat}, posN x l j = none ↔ x ∉ l
  | [], j => by simp [posN]
  | y :: l, j => by
    rw [posN]
    by_cases h : x = y
    · simp [h]
    · simp [h, posN_none]
theorem posN_some {x : N} : ∀ {l : List N} {j k : Nat}, posN x l j = some k → ∃ i, k = j + i ∧ l[i]? = some x
  | [], j, k, h => by simp [posN] at h
  | y :: l, j, k, h => by
    rw [posN] at h
    by_cases hx : x = y
    · rw [if_pos hx] at h
      injection h with h
      exact ⟨0, by omega, by simp [hx]⟩
    · rw [if_neg hx] at h
      obtain ⟨i, h1, h2⟩ := posN_some h
      exact ⟨i + 1, by omega, by simpa using h2⟩
/-- May it stand at that place? -/
def mostN (k : Int) : Int := if k = 5 then 5 else if k = 6 then 10 else 1
def fitN (x : N) (at_ : Int) : Bool :=
  decide (0 ≤ kidsS x.kind) && (if kidsS x.kind < 1 then decide (x.a = 0) else decide (0 ≤ x.a) && decide (x.a < at_)) && (if kidsS x.kind < 2 then decide (x.b = 0) else decide (0 ≤ x.b) && decide (x.b < at_)) && decide (0 ≤ x.n) && decide (x.n < mostN x.kind)
theorem kidsS_cases (k : Int) : (kidsS k = 0 ∧ (k = 1 ∨ k = 5 ∨ k = 6)) ∨ (kidsS k = 1 ∧ k = 2) ∨ (kidsS k = 2 ∧ (k = 3 ∨ k = 4)) ∨ (kidsS k = -1 ∧ k ≠ 1 ∧ k ≠ 2 ∧ k ≠ 3 ∧ k ≠ 4 ∧ k ≠ 5 ∧ k ≠ 6) := by
  unfold kidsS
  split
  · exact .inl ⟨rfl, by assumption⟩
  · split
    · exact .inr (.inl ⟨rfl, by assumption⟩)
    · split
      · exact .inr (.inr (.inl ⟨rfl, by assumption⟩))
      · exact .inr (.inr (.inr ⟨rfl, by omega⟩))
end Pi

