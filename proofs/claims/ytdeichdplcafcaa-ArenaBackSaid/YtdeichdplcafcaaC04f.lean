/- Contracts: arenas (layer 4): the levels of an arena; Get. -/
import Derived.Test.YtdeichdplcafcaaC04e
set_option linter.unusedSimpArgs false
set_option linter.unusedVariables false
namespace Pi
def lvOne (out : List L) (x : N) : L :=
  let a := out.getD x.a.toNat (.mk 0 0 [])
  let b := out.getD x.b.toNat (.mk 0 0 [])
  .mk x.kind x.n (if kidsS x.kind = 0 then [] else if kidsS x.kind = 1 then [a] else [a, b])
def lvT (l : List N) : Nat → List L
  | 0 => []
  | i + 1 => match l[i]? with
    | none => lvT l i
    | some x => lvT l i ++ [lvOne (lvT l i) x]
theorem lvT_len (l : List N) : ∀ i, i ≤ l.length → (lvT l i).length = i
  | 0, _ => rfl
  | i + 1, hi => by
    rw [lvT, List.getElem?_eq_getElem (by omega)]
    simp [lvT_len l i (by omega)]
theorem lvT_get (l : List N) (d : L) {i : Nat} : ∀ {j : Nat}, i < j → j ≤ l.length → (lvT l j).getD i d = lvOne (lvT l i) (l.getD i default)
  | 0, h, _ => by omega
  | j + 1, h, hj => by
    have hl := lvT_len l j (by omega)
    rw [lvT, List.getElem?_eq_getElem (by omega)]
    by_cases hij : i = j
    · subst hij
      simp [List.getElem?_append_right, hl, List.getElem?_eq_getElem (by omega : i < l.length)]
    · have ih := lvT_get l d (i := i) (j := j) (by omega) (by omega)
      rw [← ih]
      simp [List.getElem?_append_left (by omega : i < (lvT l j).length)]
/-- The level at a place. -/
def levN (l : List N) (i : Nat) : L := (lvT l l.length).getD i (.mk 0 0 [])
theorem levN_eq {l : List N} (hf : fitAll l 0 = true) {i : Nat} (hi : i < l.length) :
    levN l i = .mk l[i].kind l[i].n (if kidsS l[i].kind = 0 then [] else if kidsS l[i].kind = 1 then [levN l l[i].a.toNat] else [levN l l[i].a.toNat, levN l l[i].b.toNat]) := by
  have hfi : fitN l[i] (i : Nat) = true := by have := fitAll_get hf hi; simpa using this
  have e0 : l.getD i default = l[i] := by simp [hi]
  unfold levN
  rw [lvT_get l _ hi (Nat.le_refl _), e0]
  unfold lvOne
  have key : ∀ j : Nat, j < i → (lvT l i).getD j (.mk 0 0 []) = (lvT l l.length).getD j (.mk 0 0 []) := fun j hj => by
    rw [lvT_get l _ hj (by omega), lvT_get l _ (by omega : j < l.length) (Nat.le_refl _)]
  simp only
  rcases fit_kids hfi with ⟨k0, ka, kb⟩ | ⟨k0, ⟨a, ka, ha⟩, kb⟩ | ⟨k0, ⟨a, ka, ha⟩, ⟨b, kb, hb⟩⟩
  · simp [k0]
  · have h1 := key l[i].a.toNat (by omega)
    have n0 : ¬ kidsS l[i].kind = 0 := by omega
    rw [h1, if_neg n0, if_pos k0, if_neg n0, if_pos k0]
  · have h1 := key l[i].a.toNat (by omega)
    have h2 := key l[i].b.toNat (by omega)
    simp only [k0, h1, h2]
set_option maxRecDepth 5000 in
set_option maxHeartbeats 1000000 in
theorem arena_get.a (l : List N) (hl : l.length ≤ 1000) (hf : fitAll l 0 = true) : ∀ (i : Nat), i < l.length → Ans ctx arena_get.n [.ag [sV cN l], .i .i64 i] (.ag (cL (levN l i))) := by
  intro i
  induction i using Nat.strongRecOn with
  | ind i ih =>
  intro hi
  have hfi : fitN l[i] (i : Nat) = true := by have := fitAll_get hf hi; simpa using this
  have hk := arena_kids.a l[i].kind
  rw [levN_eq hf hi]
  refine ans arena_get.f ?_
  rcases fit_kids hfi with ⟨k0, ka, kb⟩ | ⟨k0, ⟨a, ka, ha⟩, kb⟩ | ⟨k0, ⟨a, ka, ha⟩, ⟨b, kb, hb⟩⟩
  · rw [k0] at hk ⊢
    rw [cL_at]
    simp +contextual (disch := omega) [Nat.add_assoc, Int.add_assoc, if_pos, if_neg, -Int.not_lt, -Int.not_le, -Nat.not_lt, -Nat.not_le, -List.length_flatMap, arena_get.c, hi, ansK hk]
    refine un_w ?_
    simp +contextual (disch := omega) [Nat.add_assoc, Int.add_assoc, if_pos, if_neg, -Int.not_lt, -Int.not_le, -Nat.not_lt, -Nat.not_le, -List.length_flatMap, arena_get.b1]
  · rw [k0] at hk ⊢
    have hA := ih a ha (by omega)
    have hta : l[i].a.toNat = a := by omega
    rw [hta, if_neg (by omega), if_pos rfl, cL_at]
    generalize levN l a = X at *
    simp +contextual (disch := omega) [Nat.add_assoc, Int.add_assoc, if_pos, if_neg, -Int.not_lt, -Int.not_le, -Nat.not_lt, -Nat.not_le, -List.length_flatMap, arena_get.c, hi, ansK hk]
    refine un_w ?_
    simp +contextual (disch := omega) [Nat.add_assoc, Int.add_assoc, if_pos, if_neg, -Int.not_lt, -Int.not_le, -Nat.not_lt, -Nat.not_le, -List.length_flatMap, arena_get.b1, hi, ka, ansK hA]
    refine un_w ?_
    simp +contextual (disch := omega) [Nat.add_assoc, Int.add_assoc, if_pos, if_neg, -Int.not_lt, -Int.not_le, -Nat.not_lt, -Nat.not_le, -List.length_flatMap, arena_get.b1]
  · rw [k0] at hk ⊢
    have hA := ih a ha (by omega)
    have hB := ih b hb (by omega)
    have hta : l[i].a.toNat = a := by omega
    have htb : l[i].b.toNat = b := by omega
    rw [hta, htb, if_neg (by omega), if_neg (by omega), cL_at]
    generalize levN l a = X at *
    generalize levN l b = Y at *
    have hfz : ∀ D, frzL D (cL X ++ cL Y) = some (cL X ++ cL Y, []) := fun D => by
      have := (Rm.full (f := cL) (k := 3) [X, Y]).fz (D := D)
      rwa [List.flatMap_cons, List.flatMap_cons, List.flatMap_nil, List.append_nil] at this
    have htk : (cL X ++ cL Y).take 6 = cL X ++ cL Y := List.take_of_length_le (by simp)
    simp +contextual (disch := omega) [Nat.add_assoc, Int.add_assoc, if_pos, if_neg, -Int.not_lt, -Int.not_le, -Nat.not_lt, -Nat.not_le, -List.length_flatMap, arena_get.c, hi, ansK hk]
    refine un_w ?_
    simp +contextual (disch := omega) [Nat.add_assoc, Int.add_assoc, if_pos, if_neg, -Int.not_lt, -Int.not_le, -Nat.not_lt, -Nat.not_le, -List.length_flatMap, arena_get.b1, hi, ka, ansK hA]
    refine un_w ?_
    simp +contextual (disch := omega) [Nat.add_assoc, Int.add_assoc, if_pos, if_neg, -Int.not_lt, -Int.not_le, -Nat.not_lt, -Nat.not_le, -List.length_flatMap, arena_get.b1, hi, kb, ansK hB]
    refine un_w ?_
    simp +contextual (disch := omega) [Nat.add_assoc, Int.add_assoc, if_pos, if_neg, -Int.not_lt, -Int.not_le, -Nat.not_lt, -Nat.not_le, -List.length_flatMap, arena_get.b1, hfz, htk]
def getV (l : List N) (i : Int) : V :=
  if rightN l = true ∧ 0 ≤ i ∧ i < l.length then
    (if ((szT l l.length).getD i.toNat ⟨0, 0⟩).var ≤ 12 ∧ ((szT l l.length).getD i.toNat ⟨0, 0⟩).off ≤ 100 then .tu [.ag (cL (levN l i.toNat)), .i .i64 0] else .tu [.ag (cL (.mk 0 0 [])), .i .i64 2])
  else .tu [.ag (cL (.mk 0 0 [])), .i .i64 1]
theorem right_len {l : List N} (h : rightN l = true) : l.length ≤ 1000 ∧ fitAll l 0 = true ∧ l.Nodup := by
  unfold rightN at h
  simp at h
  exact ⟨h.1.2, h.1.1, h.2⟩
set_option maxRecDepth 20000 in
theorem arena_Get.a (l : List N) (hl : l.length ≤ 1000000) (i : Int) : Ans ctx arena_Get.n [.ag [sV cN l], .i .i64 i] (getV l i) := by
  refine ans arena_Get.f ?_
  have hR := arena_Right.a l hl
  have e0 : cL (.mk 0 0 []) = [.i .i64 0, .i .i64 0, .sl [] 0] := cL_at _
  unfold getV
  rw [e0]
  cases hr : rightN l with
  | false =>
    rw [hr] at hR
    simp +contextual (disch := omega) [Nat.add_assoc, Int.add_assoc, if_pos, if_neg, -Int.not_lt, -Int.not_le, -Nat.not_lt, -Nat.not_le, -List.length_flatMap, arena_Get.c, ansK hR]
  | true =>
    rw [hr] at hR
    by_cases h1 : i < 0
    · rw [if_neg (by omega)]
      simp +contextual (disch := omega) [Nat.add_assoc, Int.add_assoc, if_pos, if_neg, -Int.not_lt, -Int.not_le, -Nat.not_lt, -Nat.not_le, -List.length_flatMap, arena_Get.c, ansK hR, h1]
    · by_cases h2 : (l.length : Int) ≤ i
      · rw [if_neg (by omega)]
        simp +contextual (disch := omega) [Nat.add_assoc, Int.add_assoc, if_pos, if_neg, -Int.not_lt, -Int.not_le, -Nat.not_lt, -Nat.not_le, -List.length_flatMap, arena_Get.c, ansK hR, h1, h2]
      · obtain ⟨n, rfl⟩ : ∃ n : Nat, i = n := ⟨i.toNat, by omega⟩
        obtain ⟨q1, q2, q3⟩ := right_len hr
        have hS := arena_sizes.a l q1 q2
        obtain ⟨z1, z2⟩ := szT_ok l l.length (Nat.le_refl _)
        have hn : n < (szT l l.length).length := by omega
        have hG := arena_get.a l q1 q2 n (by omega)
        have ht : ((n : Int)).toNat = n := by omega
        have hgd : (szT l l.length).getD n ⟨0, 0⟩ = (szT l l.length)[n] := by simp [hn]
        rw [if_pos (by simp; omega), ht, hgd]
        generalize levN l n = X at *
        by_cases c1 : (szT l l.length)[n].var ≤ 12
        · by_cases c2 : (szT l l.length)[n].off ≤ 100
          · rw [if_pos ⟨c1, c2⟩]
            simp +contextual (disch := omega) [Nat.add_assoc, Int.add_assoc, if_pos, if_neg, -Int.not_lt, -Int.not_le, -Nat.not_lt, -Nat.not_le, -List.length_flatMap, arena_Get.c, ansK hR, ansK hS, ansK hG, hn, z1, c1, c2]
          · rw [if_neg (fun h => c2 h.2)]
            simp +contextual (disch := omega) [Nat.add_assoc, Int.add_assoc, if_pos, if_neg, -Int.not_lt, -Int.not_le, -Nat.not_lt, -Nat.not_le, -List.length_flatMap, arena_Get.c, ansK hR, ansK hS, hn, z1, c1, c2]
        · rw [if_neg (fun h => c1 h.1)]
          simp +contextual (disch := omega) [Nat.add_assoc, Int.add_assoc, if_pos, if_neg, -Int.not_lt, -Int.not_le, -Nat.not_lt, -Nat.not_le, -List.length_flatMap, arena_Get.c, ansK hR, ansK hS, hn, z1, c1]
end Pi

