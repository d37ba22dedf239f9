/- Part of the proof: contracts of the program's functions. -/
import Derived.Test.YtdeichdplcafcaaC02k
set_option linter.unusedSimpArgs false
set_option linter.unusedVariables false
namespace Pi
theorem cI_get (o : List Int) (i : Nat) (h : i < o.length) : (o.flatMap cI)[i]'(by rw [show (o.flatMap cI).length = o.length by simpa using flat_len (f := cI) (k := 1) o]; exact h) = V.i .i64 o[i] := by
  have hm : o.flatMap cI = o.map fun a => V.i .i64 a := by
    clear h
    induction o with
    | nil => rfl
    | cons a r ih => rw [List.flatMap_cons, ih]; rfl
  simp [hm]
theorem madeS_right (l : List Nat) (p q : Nat) : rightS (madeS l p q) p q 5 = true := by
  have := mkS_right l p q 4 0
  simpa [madeS] using this
theorem madeS_sz (l : List Nat) (p q : Nat) : szL (madeS l p q) ≤ 31 := by
  have := mkS_sz l p q 4 0
  simp at this
  unfold madeS
  omega
theorem RightS_of {l : L} {p q : Nat} (hp : p ≤ 5) (hq : q ≤ 10) (hz : szL l ≤ 100) (h : rightS l p q 12 = true) : RightS l p q = true := by
  unfold RightS
  have := nodesS_le l 101
  rw [if_neg (by omega)]
  simp [h]
  omega
theorem evalS_ok {l : L} {ps ms : List Int} {p q : Nat} (h1 : ps.length = p) (h2 : ms.length = q) (h3 : RightS l p q = true) (hp : Nats ps) (hm : Nats ms) : evalS l ps ms = .tu [.i .i64 (lvS l ps ms), .i .i64 0] := by
  unfold evalS
  subst h1 h2
  rw [nats_iff.2 hp, nats_iff.2 hm, h3]
  simp
theorem nats_small {l : List Int} {M : Int} (hM : M ≤ 1099511627776) (h : ∀ j, 0 ≤ l.getD j 0 ∧ l.getD j 0 ≤ M) : Nats l := by
  intro a ha
  obtain ⟨i, hi, rfl⟩ := List.getElem_of_mem ha
  have := h i
  simp [hi] at this
  omega
theorem valuesS_small (l : List Nat) (many : Nat) : ∀ j, 0 ≤ (valuesS l many).getD j 0 ∧ (valuesS l many).getD j 0 ≤ 8 := by
  intro j
  by_cases h : j < many
  · simp [valuesS, h]; omega
  · simp [valuesS, List.getElem?_eq_none, h]
theorem max_facts (A B : L) (P Q : List Int) (ha : rightS A 3 2 5 = true) (hb : rightS B 3 2 5 = true) (za : szL A ≤ 31) (zb : szL B ≤ 31) :
    rightS (.mk 3 0 [A, B]) 3 2 12 = true ∧ szL (.mk 3 0 [A, B]) ≤ 100 ∧ lvS (.mk 3 0 [A, B]) P Q = max (lvS A P Q) (lvS B P Q) := by
  refine ⟨?_, ?_, ?_⟩
  · rw [rightS_eq]
    have := rightS_up A 3 2 5 11 (by omega) ha
    have := rightS_up B 3 2 5 11 (by omega) hb
    simp_all [kidsS, namedS, L.kids, L.kind, L.n]
  · simp [szL, szLs]; omega
  · rw [lvS_eq]; simp [valK, L.kids, L.kind]
theorem succ_facts (A : L) (P Q : List Int) (ha : rightS A 3 2 5 = true) (za : szL A ≤ 31) :
    rightS (.mk 2 0 [A]) 3 2 12 = true ∧ szL (.mk 2 0 [A]) ≤ 100 ∧ lvS (.mk 2 0 [A]) P Q = lvS A P Q + 1 := by
  refine ⟨?_, ?_, ?_⟩
  · rw [rightS_eq]
    have := rightS_up A 3 2 5 11 (by omega) ha
    simp_all [kidsS, namedS, L.kids, L.kind, L.n]
  · simp [szL, szLs]; omega
  · rw [lvS_eq]; simp [valK, L.kids, L.kind]
end Pi
