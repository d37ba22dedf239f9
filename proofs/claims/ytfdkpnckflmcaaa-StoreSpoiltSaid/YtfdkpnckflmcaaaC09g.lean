/- Laws of layer 9: the least model; From. -/
import Derived.Test.YtfdkpnckflmcaaaC09f
import Derived.Test.YtfdkpnckflmcaaaC08j
set_option linter.unusedSimpArgs false
set_option linter.unusedVariables false
namespace Pi
theorem places_len0 {α : Type} {p : α → Bool} {l : List α} : (placesS p l).length = 0 ↔ ∀ c ∈ l, p c = false := by
  unfold placesS
  rw [List.length_map, List.length_eq_zero_iff, List.filter_eq_nil_iff]
  constructor
  · intro h c hc
    obtain ⟨i, hi, rfl⟩ := List.mem_iff_getElem.1 hc
    have := h (l[i], i) (List.mem_zipIdx_iff_getElem?.2 (by simp [hi]))
    simpa using this
  · rintro h ⟨a, i⟩ ha
    simp [h a (List.fst_mem_of_mem_zipIdx ha)]
theorem broken_v {l : List C} {m : List Int} (q1 : rightC m.length l = true) (q2 : Nats m) : brokenS l m = .tu [sV cI (placesS (brokenC m) l), .i .i64 0] := by
  rw [brokenS, if_neg]
  rw [not_or]
  exact ⟨by rw [q1]; simp, by rw [Bool.not_eq_true]; exact nats_iff.2 q2⟩
theorem nats_small {m : List Int} {X : Int} (h : ∀ i : Nat, 0 ≤ m.getD i 0 ∧ m.getD i 0 ≤ X) (hX : X ≤ 1000000) : Nats m := by
  intro a ha
  obtain ⟨i, hi, rfl⟩ := List.mem_iff_getElem.1 ha
  have := h i
  rw [getD_get _ _ hi] at this
  omega
theorem LeastM.nats {n : Nat} {l : List C} {out : List Int} {X : Int} (h : LeastM l (noughts n) out) (hX : ∀ i : Nat, out.getD i 0 ≤ X) (hb : X ≤ 1000000) : Nats out :=
  nats_small (fun i => ⟨(le_noughts.1 h.ge) i, hX i⟩) hb
theorem limC_bd {n : Nat} {l : List C} (hR : rightC n l = true) (F : Int) (h0 : 0 ≤ F) (h1 : F ≤ 1000) : 0 ≤ limC n l F ∧ limC n l F ≤ 16000 := by
  obtain ⟨r1, r2, r3, r4⟩ := right_ok hR
  have hb := mostS_bd r4
  have b1 : 0 ≤ ((n : Int) - 1) * mostS l := Int.mul_nonneg (by omega) hb.1
  have b2 : ((n : Int) - 1) * mostS l ≤ 15 * 1000 := Int.mul_le_mul (by omega) hb.2 hb.1 (by omega)
  unfold limC
  omega
theorem madeB_off (vars k : Nat) : ∀ l, ∀ c ∈ madeB vars k l, c.to.off ≤ 2 := by
  induction k with
  | zero => intro l; simp [madeB]
  | succ k ih =>
    intro l
    unfold madeB
    by_cases h : l = []
    · simp [h]
    · rw [if_neg h]
      intro c hc
      simp at hc
      rcases hc with rfl | hc
      · unfold clauseB
        cases l[manyB l]? with
        | none => simp
        | some b => simp [atomB]; omega
      · exact ih _ c hc
theorem most_two (n : Nat) (l : List Nat) : mostS (madeC n l) ≤ 2 := by
  have hO := made_ok n l
  rw [mostS_eq]
  refine fold_inv (P := fun n : Int => n ≤ 2) (fun b c hc hb => fold_inv (P := fun n : Int => n ≤ 2) (fun b' a ha hb' => ?_) hb) (by omega)
  have h1 := madeB_off _ _ _ c hc
  have h2 := okC_frm (hO c hc) ha
  unfold mostF
  omega
theorem lm_vs_solve {l : List C} {frm : List Int} {F : Int} (hn : 0 < frm.length) (hl : ∀ c ∈ l, okC frm.length c = true) (hF : ∀ i, i < frm.length → 0 ≤ frm.getD i 0 ∧ frm.getD i 0 ≤ F) :
    (lmC l frm (limC frm.length l F)).2.1 = (solveC frm.length l).2.1 := by
  rcases lm_spec hn hl hF with ⟨h1, h2, _⟩ | ⟨h1, _, h2⟩
  · rw [h1]
    cases h : (solveC frm.length l).2.1 with
    | true => rfl
    | false =>
      refine ((solve_iff hn hl).1 h _ h2.len (fun i => ?_) h2.holds).elim
      by_cases hi : i < frm.length
      · exact Int.le_trans (hF i hi).1 (h2.ge i)
      · simp [List.getElem?_eq_none (by have := h2.len; omega : (lmC l frm (limC frm.length l F)).1.length ≤ i)]
  · rw [h1, (solve_iff hn hl).2 h2]
theorem fromV_ok {l : List C} {m : List Int} (hR : rightC m.length l = true) (hN : Nats m) (hm : maxL m ≤ 1000) : fromV l m = .tu [sV cI (lmC l m (limC m.length l (maxL m))).1, .b (lmC l m (limC m.length l (maxL m))).2.1, .i .i64 0] := by
  unfold fromV
  rw [if_neg, if_neg (by omega)]
  rw [not_or]
  exact ⟨by rw [hR]; simp, by rw [Bool.not_eq_true]; exact nats_iff.2 hN⟩
theorem max_noughts (n : Nat) : maxL (noughts n) = 0 := by
  induction n with
  | zero => rfl
  | succ n ih => unfold noughts maxL at *; rw [List.replicate_succ, List.foldl_cons]; exact ih
theorem noughts_nats (n : Nat) : Nats (noughts n) := by
  intro a ha
  unfold noughts at ha
  have := List.eq_of_mem_replicate ha
  omega
theorem fromV_noughts {n : Nat} {l : List C} (hR : rightC n l = true) : fromV l (noughts n) = .tu [sV cI (solveC n l).1, .b (solveC n l).2.1, .i .i64 0] := by
  rw [fromV_ok (by rw [noughts_len]; exact hR) (noughts_nats n) (by rw [max_noughts]; omega), max_noughts, noughts_len]
  rfl
theorem maxL_le {m : List Int} {X : Int} (h : ∀ i : Nat, m.getD i 0 ≤ X) (h0 : 0 ≤ X) : maxL m ≤ X := by
  obtain ⟨_, _, h3⟩ := fold_mx m 0
  unfold maxL
  rcases h3 with h3 | h3
  · omega
  · obtain ⟨i, hi, e⟩ := List.mem_iff_getElem.1 h3
    have := h i
    rw [getD_get _ _ hi] at this
    omega
end Pi
