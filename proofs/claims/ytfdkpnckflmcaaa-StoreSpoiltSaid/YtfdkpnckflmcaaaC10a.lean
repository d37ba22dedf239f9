/- Why there is no model: places of clauses, bits; in plain Lean. -/
import Derived.Test.YtfdkpnckflmcaaaC09b
set_option linter.unusedSimpArgs false
set_option linter.unusedVariables false
namespace Pi
/-- The places below n that are bits of S. -/
def bitsL (S n : Nat) : List Nat := (List.range n).filter fun i => S.testBit i
def offB (S i : Nat) : Nat := (BitVec.ofNat 64 S &&& ~~~(BitVec.ofNat 64 (2 ^ i))).toNat
/-- All but one. -/
def lessL (l : List Nat) (i : Nat) : List Nat := l.filter (· ≠ i)
theorem mem_less {l : List Nat} {i j : Nat} : j ∈ lessL l i ↔ j ∈ l ∧ j ≠ i := by unfold lessL; simp [List.mem_filter]
theorem less_len (l : List Nat) (i : Nat) : (lessL l i).length ≤ l.length := List.length_filter_le _ _
theorem less_pair {l : List Nat} {i : Nat} (h : l.Pairwise (· < ·)) : (lessL l i).Pairwise (· < ·) := h.filter _
theorem offB_lt (S i : Nat) : offB S i < 2 ^ 64 := BitVec.isLt _
theorem testBit_pow (i j : Nat) : (2 ^ i).testBit j = decide (i = j) := by
  rw [Nat.testBit_two_pow]
theorem offB_bit {S i j : Nat} (hj : j < 64) : (offB S i).testBit j = (S.testBit j && decide (j ≠ i)) := by
  unfold offB
  rw [BitVec.testBit_toNat]
  simp only [BitVec.getLsbD_and, BitVec.getLsbD_not, BitVec.getLsbD_ofNat, hj, decide_true, Bool.true_and, Nat.testBit_two_pow]
  by_cases h : i = j
  · simp [h]
  · simp [h, Ne.symm h]
theorem bits_off {S i n : Nat} (hn : n ≤ 64) : bitsL (offB S i) n = lessL (bitsL S n) i := by
  unfold bitsL lessL
  rw [List.filter_filter]
  apply List.filter_congr
  intro j hj
  rw [offB_bit (by have := List.mem_range.1 hj; omega)]
  rw [Bool.and_comm]
theorem bits_full {n : Nat} : bitsL (2 ^ n - 1) n = List.range n := by
  unfold bitsL
  rw [List.filter_eq_self]
  intro j hj
  rw [Nat.testBit_two_pow_sub_one]
  simpa using hj
theorem has_bit (S i : Nat) : (S / 2 ^ i % 2 ≠ 0) ↔ S.testBit i = true := by
  rw [Nat.testBit_eq_decide_div_mod_eq]
  simp
def pickC (l : List C) (p : List Nat) : List C := p.map fun i => l.getD i default
theorem pick_range (l : List C) : pickC l (List.range l.length) = l := by
  unfold pickC
  apply List.ext_getElem
  · simp
  · intro i h1 h2
    simp [h2]
theorem pick_mem {l : List C} {p : List Nat} (hp : ∀ i ∈ p, i < l.length) {c : C} (h : c ∈ pickC l p) : c ∈ l := by
  obtain ⟨i, hi, rfl⟩ := List.mem_map.1 h
  have := hp i hi
  simp [this]
theorem pick_sub {l : List C} {p q : List Nat} (h : ∀ i ∈ p, i ∈ q) : ∀ c ∈ pickC l p, c ∈ pickC l q := by
  intro c hc
  obtain ⟨i, hi, rfl⟩ := List.mem_map.1 hc
  exact List.mem_map.2 ⟨i, h i hi, rfl⟩
def lostC (n : Nat) (l : List C) : Bool := !(solveC n l).2.1
theorem lost_iff {n : Nat} {l : List C} (hn : 0 < n) (hl : ∀ c ∈ l, okC n c = true) : lostC n l = true ↔ NoModel n l := by
  unfold lostC
  rw [Bool.not_eq_true', solve_iff hn hl]
theorem lost_more {n : Nat} {l l' : List C} (hn : 0 < n) (hl : ∀ c ∈ l', okC n c = true) (hs : ∀ c ∈ l, c ∈ l') (h : lostC n l = true) : lostC n l' = true :=
  (lost_iff hn hl).2 (((lost_iff hn fun c hc => hl c (hs c hc)).1 h).more hs)
theorem lost_nil {n : Nat} (hn : 0 < n) : lostC n [] = false := by
  rw [← Bool.not_eq_true, lost_iff hn (fun c hc => by cases hc)]
  intro h
  exact h (noughts n) (noughts_len n) (fun i => by rw [noughts_at]; omega) (fun c hc => by cases hc)
/-- One place after the other is left out, if there still is no model. -/
def stepL (n : Nat) (l : List C) (now : List Nat) (i : Nat) : List Nat := if lostC n (pickC l (lessL now i)) then lessL now i else now
def coreL (n : Nat) (l : List C) : List Nat := (List.range l.length).foldl (stepL n l) (List.range l.length)
theorem stepL_sub (n : Nat) (l : List C) (now : List Nat) (i : Nat) : ∀ j ∈ stepL n l now i, j ∈ now := by
  unfold stepL
  split
  · intro j hj; exact (mem_less.1 hj).1
  · intro j hj; exact hj
theorem foldL_sub (n : Nat) (l : List C) (is : List Nat) : ∀ now : List Nat, ∀ j ∈ is.foldl (stepL n l) now, j ∈ now := by
  induction is with
  | nil => intro now j hj; exact hj
  | cons i is ih => intro now j hj; exact stepL_sub n l now i j (ih _ j hj)
theorem stepL_pair {n : Nat} {l : List C} {now : List Nat} {i : Nat} (h : now.Pairwise (· < ·)) : (stepL n l now i).Pairwise (· < ·) := by
  unfold stepL
  split
  · exact less_pair h
  · exact h
theorem foldL_pair {n : Nat} {l : List C} (is : List Nat) : ∀ now : List Nat, now.Pairwise (· < ·) → (is.foldl (stepL n l) now).Pairwise (· < ·) := by
  induction is with
  | nil => intro now h; exact h
  | cons i is ih => intro now h; exact ih _ (stepL_pair h)
theorem foldL_lost {n : Nat} {l : List C} (is : List Nat) : ∀ now : List Nat, lostC n (pickC l now) = true → lostC n (pickC l (is.foldl (stepL n l) now)) = true := by
  induction is with
  | nil => intro now h; exact h
  | cons i is ih =>
    intro now h
    refine ih _ ?_
    unfold stepL
    split
    · assumption
    · exact h
theorem foldL_least {n : Nat} {l : List C} (hn : 0 < n) (hl : ∀ c ∈ l, okC n c = true) (is : List Nat) : ∀ now : List Nat, (∀ j ∈ now, j < l.length) → ∀ j ∈ is, j ∈ is.foldl (stepL n l) now →
    lostC n (pickC l (lessL (is.foldl (stepL n l) now) j)) = false := by
  induction is with
  | nil => intro now _ j hj; cases hj
  | cons i is ih =>
    intro now hnow j hj hin
    rcases List.mem_cons.1 hj with rfl | hj
    · rw [List.foldl_cons] at hin ⊢
      have hs := foldL_sub n l is (stepL n l now j)
      have hnl : lostC n (pickC l (lessL now j)) = false := by
        cases h : lostC n (pickC l (lessL now j)) with
        | false => rfl
        | true =>
          have hb := hs j hin
          unfold stepL at hb
          rw [if_pos h] at hb
          exact absurd rfl (mem_less.1 hb).2
      rw [← Bool.not_eq_true] at hnl ⊢
      refine fun h => hnl (lost_more hn (fun c hc => hl c (pick_mem (fun k hk => hnow k (mem_less.1 hk).1) hc)) (pick_sub fun k hk => ?_) h)
      rw [mem_less] at hk ⊢
      exact ⟨stepL_sub n l now j k (hs k hk.1), hk.2⟩
    · exact ih _ (fun k hk => hnow k (stepL_sub n l now i k hk)) j hj hin
theorem coreL_lt {n : Nat} {l : List C} : ∀ j ∈ coreL n l, j < l.length := fun j hj => List.mem_range.1 (foldL_sub n l _ _ j hj)
theorem coreL_pair {n : Nat} {l : List C} : (coreL n l).Pairwise (· < ·) := foldL_pair _ _ List.pairwise_lt_range
theorem coreL_lost {n : Nat} {l : List C} (h : lostC n l = true) : lostC n (pickC l (coreL n l)) = true := foldL_lost _ _ (by rw [pick_range]; exact h)
theorem coreL_least {n : Nat} {l : List C} (hn : 0 < n) (hl : ∀ c ∈ l, okC n c = true) {j : Nat} (hj : j ∈ coreL n l) : lostC n (pickC l (lessL (coreL n l) j)) = false :=
  foldL_least hn hl _ _ (fun k hk => List.mem_range.1 hk) j (List.mem_range.2 (coreL_lt j hj)) hj
theorem coreL_ne {n : Nat} {l : List C} (hn : 0 < n) (h : lostC n l = true) : coreL n l ≠ [] := by
  intro e
  have := coreL_lost h
  rw [e] at this
  unfold pickC at this
  rw [List.map_nil, lost_nil hn] at this
  cases this
/-- Are places rising, and below a bound? -/
def riseB (n : Nat) : Int → List Int → Bool
  | _, [] => true
  | a, b :: p => decide (a < b) && decide (b < n) && riseB n b p
end Pi
