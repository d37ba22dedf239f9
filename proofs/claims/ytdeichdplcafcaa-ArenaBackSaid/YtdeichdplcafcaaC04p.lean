/- Arenas by numbers: what they are. -/
import Derived.Test.YtdeichdplcafcaaC04o
set_option linter.unusedSimpArgs false
set_option linter.unusedVariables false
namespace Pi
def lvlS (ls : List (List Nat)) (i : Nat) : L := madeS (ls.getD i []) 5 10
def plcS (ls : List (List Nat)) (i : Nat) : Nat := (putN (lvlS ls i) (arenaT ls i)).2
theorem lvlS_right (ls : List (List Nat)) (i : Nat) : rightS (lvlS ls i) 5 10 5 = true := madeS_right _ 5 10
theorem lvlS_Right (ls : List (List Nat)) (i : Nat) : RightS (lvlS ls i) 5 10 = true := by
  have h1 := lvlS_right ls i
  have h2 : szL (lvlS ls i) ≤ 31 := madeS_sz _ 5 10
  exact RightS_of (p := 5) (q := 10) (by omega) (by omega) (by omega) (rightS_up _ 5 10 5 12 (by omega) h1)
theorem arenaT_ok (ls : List (List Nat)) : ∀ i, i ≤ 8 → rightN (arenaT ls i) = true ∧ (arenaT ls i).length ≤ 31 * i
  | 0, _ => by simp [arenaT, rightN, fitAll]
  | i + 1, hi => by
    obtain ⟨h1, h2⟩ := arenaT_ok ls i (by omega)
    obtain ⟨q1, q2, q3⟩ := right_len h1
    have hl := (putN_len (lvlS ls i) 5 10 5 (arenaT ls i) (lvlS_right ls i)).1
    obtain ⟨t, a1, a2, a3, a4, a5⟩ := putN_ok (lvlS ls i) 5 (arenaT ls i) (lvlS_right ls i) q2 q3
    have e : arenaT ls (i + 1) = (putN (lvlS ls i) (arenaT ls i)).1 := by
      rw [arenaT]
      unfold putA
      rw [if_pos ⟨h1, lvlS_Right ls i, by have : (putN (lvlS ls i) (arenaT ls i)).1.length ≤ 1000 := by omega
                                          exact this⟩]
      rfl
    rw [e]
    refine ⟨?_, by omega⟩
    rw [a1]
    rw [a1] at hl
    unfold rightN
    simp [a2, a3]
    rw [List.length_append] at hl
    omega
theorem arenaT_s (ls : List (List Nat)) {i : Nat} (hi : i < 8) : arenaT ls (i + 1) = (putN (lvlS ls i) (arenaT ls i)).1 ∧ putV (arenaT ls i) (lvlS ls i) = .tu [.ag [sV cN (arenaT ls (i + 1))], .i .i64 (plcS ls i), .i .i64 0] ∧ (∃ t, arenaT ls (i + 1) = arenaT ls i ++ t) ∧ plcS ls i < (arenaT ls (i + 1)).length ∧ levN (arenaT ls (i + 1)) (plcS ls i) = lvlS ls i := by
  obtain ⟨h1, h2⟩ := arenaT_ok ls i (by omega)
  obtain ⟨q1, q2, q3⟩ := right_len h1
  have hl := (putN_len (lvlS ls i) 5 10 5 (arenaT ls i) (lvlS_right ls i)).1
  obtain ⟨t, a1, a2, a3, a4, a5⟩ := putN_ok (lvlS ls i) 5 (arenaT ls i) (lvlS_right ls i) q2 q3
  have hle : (putN (lvlS ls i) (arenaT ls i)).1.length ≤ 1000 := by omega
  have e : arenaT ls (i + 1) = (putN (lvlS ls i) (arenaT ls i)).1 := by
    rw [arenaT]
    unfold putA
    rw [if_pos ⟨h1, lvlS_Right ls i, hle⟩]
    rfl
  refine ⟨e, ?_, ⟨t, by rw [e, a1]⟩, by rw [e, a1]; exact a4, by rw [e, a1]; exact a5⟩
  unfold putV
  rw [if_pos ⟨h1, lvlS_Right ls i⟩, if_pos hle, e]
  rfl
theorem arenaT_pre (ls : List (List Nat)) {i : Nat} : ∀ {j : Nat}, i ≤ j → j ≤ 8 → ∃ t, arenaT ls j = arenaT ls i ++ t
  | 0, h, _ => by
    have : i = 0 := by omega
    subst this
    exact ⟨[], by simp⟩
  | j + 1, h, hj => by
    by_cases hij : i = j + 1
    · subst hij; exact ⟨[], by simp⟩
    · obtain ⟨t, ht⟩ := arenaT_pre ls (i := i) (j := j) (by omega) (by omega)
      obtain ⟨u, hu⟩ := (arenaT_s ls (i := j) (by omega)).2.2.1
      exact ⟨t ++ u, by rw [hu, ht, List.append_assoc]⟩
theorem plc_at (ls : List (List Nat)) {i M : Nat} (hi : i < M) (hM : M ≤ 8) : plcS ls i < (arenaT ls M).length ∧ levN (arenaT ls M) (plcS ls i) = lvlS ls i := by
  obtain ⟨_, _, _, h4, h5⟩ := arenaT_s ls (i := i) (by omega)
  obtain ⟨t, ht⟩ := arenaT_pre ls (i := i + 1) (j := M) (by omega) hM
  have hr := (right_len (arenaT_ok ls M hM).1).2.1
  rw [ht] at hr ⊢
  refine ⟨by rw [List.length_append]; omega, ?_⟩
  rw [levN_app hr _ h4, h5]
theorem plc_get (ls : List (List Nat)) {i M : Nat} (hi : i < M) (hM : M ≤ 8) : getV (arenaT ls M) (plcS ls i) = .tu [.ag (cL (lvlS ls i)), .i .i64 0] := by
  obtain ⟨h1, h2⟩ := plc_at ls hi hM
  have hr := (arenaT_ok ls M hM).1
  have hb := szT_bd (right_len hr).2.1 _ h1 5 (by rw [h2]; exact lvlS_right ls i)
  rw [h2] at hb
  have hz : szL (lvlS ls i) ≤ 31 := madeS_sz _ 5 10
  have ht : ((plcS ls i : Nat) : Int).toNat = plcS ls i := by omega
  unfold getV
  rw [if_pos ⟨hr, by omega, by omega⟩, ht, if_pos ⟨by omega, by omega⟩, h2]
theorem plc_inj (ls : List (List Nat)) {i k M : Nat} (hi : i < M) (hk : k < M) (hM : M ≤ 8) : plcS ls k = plcS ls i ↔ lvlS ls k = lvlS ls i := by
  obtain ⟨h1, h2⟩ := plc_at ls hi hM
  obtain ⟨g1, g2⟩ := plc_at ls hk hM
  obtain ⟨q1, q2, q3⟩ := right_len (arenaT_ok ls M hM).1
  constructor
  · intro h
    rw [← h2, ← g2, h]
  · intro h
    exact levN_inj q2 q3 _ _ g1 h1 (by rw [h2, g2, h])
def lvlT (ls : List (List Nat)) (i : Nat) : List L := (List.range i).map (lvlS ls)
def plcT (ls : List (List Nat)) (i : Nat) : List Int := (List.range i).map fun j => (plcS ls j : Int)
theorem lvlT_s (ls : List (List Nat)) (i : Nat) : lvlT ls (i + 1) = lvlT ls i ++ [lvlS ls i] := by simp [lvlT, List.range_succ]
theorem plcT_s (ls : List (List Nat)) (i : Nat) : plcT ls (i + 1) = plcT ls i ++ [(plcS ls i : Int)] := by simp [plcT, List.range_succ]
@[simp] theorem lvlT_len (ls : List (List Nat)) (i : Nat) : (lvlT ls i).length = i := by simp [lvlT]
@[simp] theorem plcT_len (ls : List (List Nat)) (i : Nat) : (plcT ls i).length = i := by simp [plcT]
end Pi

