/- Contracts: arenas (layer 4): the index, Right. -/
import Derived.Test.YtdeichdplcafcaaC04a
set_option linter.unusedSimpArgs false
set_option linter.unusedVariables false
namespace Pi
/-- The index, step by step. -/
def idxT (l : List N) : Nat → List N × List Int
  | 0 => ([], [])
  | i + 1 => match l[i]? with
    | none => idxT l i
    | some x => match posN x (idxT l i).1 0 with
      | some j => ((idxT l i).1, (idxT l i).2.set j i)
      | none => ((idxT l i).1 ++ [x], (idxT l i).2 ++ [(i : Int)])
theorem idxT_len (l : List N) : ∀ i, (idxT l i).1.length = (idxT l i).2.length ∧ (idxT l i).1.length ≤ i
  | 0 => by simp [idxT]
  | i + 1 => by
    have ih := idxT_len l i
    rw [idxT]
    cases l[i]? with
    | none => simp only; omega
    | some x =>
      simp only
      cases posN x (idxT l i).1 0 with
      | some j => simp; omega
      | none => simp; omega
theorem idxT_mem (l : List N) : ∀ i, ∀ x, x ∈ (idxT l i).1 ↔ x ∈ l.take i
  | 0 => by simp [idxT]
  | i + 1 => by
    intro x
    have ih := idxT_mem l i
    rw [idxT, List.take_add_one]
    cases h : l[i]? with
    | none => simp [ih]
    | some y =>
      simp only [Option.toList_some, List.mem_append, List.mem_singleton]
      cases hp : posN y (idxT l i).1 0 with
      | none => simp [ih]
      | some j =>
        obtain ⟨k, _, hk⟩ := posN_some hp
        have : y ∈ l.take i := (ih y).1 (List.mem_of_getElem? hk)
        simp only [ih]
        constructor
        · exact .inl
        · rintro (h1 | rfl)
          · exact h1
          · exact this
theorem idxT_nodup (l : List N) : ∀ i, (l.take i).Nodup → i ≤ l.length → idxT l i = (l.take i, (List.range i).map fun (k : Nat) => (k : Int))
  | 0, _, _ => by simp [idxT]
  | i + 1, hn, hi => by
    have hsi : l.take (i + 1) = l.take i ++ [l[i]] := List.take_succ_eq_append_getElem (by omega)
    rw [hsi] at hn ⊢
    have h1 := List.nodup_append.1 hn
    have ih := idxT_nodup l i h1.1 (by omega)
    rw [idxT, List.getElem?_eq_getElem (by omega), ih]
    have : posN l[i] (l.take i) 0 = none := posN_none.2 fun h => h1.2.2 _ h _ (by simp) rfl
    simp only [this]
    rw [List.range_succ, List.map_append]
    rfl
theorem idxT_full (l : List N) : ∀ i, i ≤ l.length → (idxT l i).1.length = i → (l.take i).Nodup
  | 0, _, _ => by simp
  | i + 1, hi, h => by
    have hle := idxT_len l i
    rw [idxT, List.getElem?_eq_getElem (by omega)] at h
    rw [List.take_succ_eq_append_getElem (by omega)]
    cases hp : posN l[i] (idxT l i).1 0 with
    | some j => simp only [hp] at h; omega
    | none =>
      simp only [hp] at h
      simp at h
      have ih := idxT_full l i (by omega) (by omega)
      rw [List.nodup_append]
      refine ⟨ih, by simp, ?_⟩
      rintro a ha b hb rfl
      simp at hb
      subst hb
      exact posN_none.1 hp ((idxT_mem l i _).2 ha)
instance (l : List N) : Decidable l.Nodup := inferInstanceAs (Decidable (List.Pairwise _ l))
theorem idx_len_iff (l : List N) : (idxT l l.length).1.length = l.length ↔ l.Nodup := by
  constructor
  · intro h
    have := idxT_full l l.length (Nat.le_refl _) h
    rwa [List.take_length] at this
  · intro h
    rw [idxT_nodup l l.length (by rwa [List.take_length]) (Nat.le_refl _)]
    simp
/-- A map in memory. -/
def keysN (l : List N) : List V := l.map fun y => V.ag (cN y)
def valsI (l : List Int) : List V := l.map fun k => V.i .i64 k
theorem over_keys (x : Nat) (l : List N) : overL x (keysN l) = true := by
  induction l with
  | nil => rfl
  | cons a r ih => simpa [keysN, overL, V.over, cN] using ih
theorem over_vals (x : Nat) (l : List Int) : overL x (valsI l) = true := by
  induction l with
  | nil => rfl
  | cons a r ih => simpa [valsI, overL, V.over] using ih
set_option maxRecDepth 5000 in
theorem arena_index.w (l : List N) (hl : l.length ≤ 1000000) {m : Sto} {x : Nat} {K : CR → Sto → Nat → Prop}
    (hK : ∀ a m' x', x ≤ a → a < x' → m' a = some (.map (keysN (idxT l l.length).1) (valsI (idxT l l.length).2) false) → (∀ j, j < x → m' j = m j) → (Own m x → Own m' x) → K (.ret (.mp a)) m' x') :
    w ctx (envOf [.ag [sV cN l]]) m x [] none none (RetG ctx arena_index.c.rs K) arena_index.c.code := by
  simp +contextual (disch := omega) [Nat.add_assoc, Int.add_assoc, if_pos, if_neg, -Int.not_lt, -Int.not_le, -Nat.not_lt, -Nat.not_le, -List.length_flatMap, arena_index.c]
  refine for_w (fun i e m' x' => e 3 = .mp (x + 2) ∧ e 8 = sV cN l ∧ e 9 = .i .i64 l.length ∧ e 10 = .i .i64 i ∧ x + 8 ≤ x' ∧ m' (x + 2) = some (.map (keysN (idxT l i).1) (valsI (idxT l i).2) false) ∧ (∀ j, j < x → m' j = m j) ∧ (Own m x → Own m' x)) l.length ?_ ?_ ?_
  · simp +contextual (disch := omega) [Nat.add_assoc, Int.add_assoc, if_pos, if_neg, -Int.not_lt, -Int.not_le, -Nat.not_lt, -Nat.not_le, -List.length_flatMap, idxT, keysN, valsI]
    exact fun h => (h.set rfl).set rfl
  · rintro i e m' x' hi ⟨g3, g8, g9, g10, gx, gm, gj, go⟩
    have hli : l[i]? = some l[i] := List.getElem?_eq_getElem hi
    have hf := findInN l[i] (idxT l i).1
    rw [idxT, hli]
    simp only
    have hks : (keysN (idxT l i).1) = (idxT l i).1.map fun y => V.ag (cN y) := rfl
    rw [← hks] at hf
    cases hp : posN l[i] (idxT l i).1 0 with
    | some j =>
      rw [hp] at hf
      have hvs : (valsI (idxT l i).2).set j (.i .i64 i) = valsI ((idxT l i).2.set j i) := by unfold valsI; rw [List.map_set]
      simp only
      simp +contextual (disch := omega) [Nat.add_assoc, Int.add_assoc, if_pos, if_neg, -Int.not_lt, -Int.not_le, -Nat.not_lt, -Nat.not_le, -List.length_flatMap, arena_index.b1, g3, g8, g9, g10, gm, gj, hi, hf, hvs]
      exact ⟨by omega, fun h => (((go h).set rfl).set rfl).set (by simp [ownO, over_keys, over_vals])⟩
    | none =>
      rw [hp] at hf
      have hvs : valsI (idxT l i).2 ++ [.i .i64 i] = valsI ((idxT l i).2 ++ [(i : Int)]) := by simp [valsI]
      have hkk : keysN (idxT l i).1 ++ [.ag (cN l[i])] = keysN ((idxT l i).1 ++ [l[i]]) := by simp [keysN]
      simp only
      simp +contextual (disch := omega) [Nat.add_assoc, Int.add_assoc, if_pos, if_neg, -Int.not_lt, -Int.not_le, -Nat.not_lt, -Nat.not_le, -List.length_flatMap, arena_index.b1, g3, g8, g9, g10, gm, gj, hi, hf, hvs, hkk]
      exact ⟨by omega, fun h => (((go h).set rfl).set rfl).set (by simp [ownO, over_keys, over_vals])⟩
  · rintro e m' x' ⟨g3, g8, g9, g10, gx, gm, gj, go⟩
    simp +contextual (disch := omega) [Nat.add_assoc, Int.add_assoc, if_pos, if_neg, -Int.not_lt, -Int.not_le, -Nat.not_lt, -Nat.not_le, -List.length_flatMap, arena_index.b1, g3, g8, g9, g10]
    exact hK _ _ _ (by omega) (by omega) gm gj go
end Pi

