/- Contracts: clauses (layer 8): Most, Names, on both sides. -/
import Derived.Test.YtfdkpnckflmcaaaC08f
set_option linter.unusedSimpArgs false
set_option linter.unusedVariables false
namespace Pi
def mostV (vars : Int) (l : List C) : V := if rightC vars l = true then .tu [.i .i64 (mostS l), .i .i64 0] else .tu [.i .i64 0, .i .i64 1]
def mostF (c : C) (n : Int) (a : A) : Int := max n (c.to.off - a.off)
theorem mostS_eq (l : List C) : mostS l = l.foldl (fun n c => c.frm.foldl (mostF c) n) 0 := rfl
theorem mostS_take {l : List C} {i : Nat} (hi : i < l.length) : mostS (l.take (i + 1)) = l[i].frm.foldl (mostF l[i]) (mostS (l.take i)) := by
  rw [mostS_eq, take_fold hi]; rfl
theorem fold_bd {c : C} {l : List A} (hc : ∀ a ∈ l, -1000 ≤ c.to.off - a.off ∧ c.to.off - a.off ≤ 1000) : ∀ n : Int, 0 ≤ n → n ≤ 1000 → 0 ≤ l.foldl (mostF c) n ∧ l.foldl (mostF c) n ≤ 1000 := by
  intro n h0 h1
  refine fold_inv (P := fun n : Int => 0 ≤ n ∧ n ≤ 1000) (fun b a ha hb => ?_) ⟨h0, h1⟩
  have := hc a ha
  unfold mostF
  omega
theorem mostS_bd {vars : Int} {l : List C} (h : ∀ c ∈ l, okC vars c = true) : 0 ≤ mostS l ∧ mostS l ≤ 1000 := by
  rw [mostS_eq]
  refine fold_inv (P := fun n : Int => 0 ≤ n ∧ n ≤ 1000) (fun b c hc hb => fold_bd (fun a ha => ?_) b hb.1 hb.2) ⟨by omega, by omega⟩
  have h1 := okC_to (h c hc)
  have h2 := okC_frm (h c hc) ha
  omega
def curM (l : List C) (i k : Nat) : Int := match l[i]? with | some c => ((atomsC c).take k).foldl (mostF c) (mostS (l.take i)) | none => mostS (l.take i)
theorem curM_z (l : List C) (i : Nat) : curM l i 0 = mostS (l.take i) := by
  unfold curM
  cases l[i]? <;> simp
theorem curM_s {l : List C} {i k : Nat} (hi : i < l.length) (hk : k < (atomsC l[i]).length) : curM l i (k + 1) = max (curM l i k) (l[i].to.off - (atomsC l[i])[k].off) := by
  unfold curM
  rw [List.getElem?_eq_getElem hi]
  simp only
  rw [take_fold hk]; rfl
theorem curM_e {vars : Int} {l : List C} {i : Nat} (hi : i < l.length) (h : ∀ c ∈ l, okC vars c = true) : curM l i (atomsC l[i]).length = mostS (l.take (i + 1)) := by
  unfold curM
  rw [List.getElem?_eq_getElem hi]
  simp only
  rw [List.take_length, mostS_take hi, atomsC, List.foldl_append]
  have h1 := fold_bd (c := l[i]) (l := l[i].frm) (fun a ha => by
    have h1 := okC_to (h _ (List.getElem_mem hi))
    have h2 := okC_frm (h _ (List.getElem_mem hi)) ha
    omega) (mostS (l.take i)) (mostS_nonneg _) (mostS_bd (fun c hc => h c (List.mem_of_mem_take hc))).2
  simp only [List.foldl_cons, List.foldl_nil]
  generalize l[i].frm.foldl (mostF l[i]) (mostS (l.take i)) = n at *
  unfold mostF
  omega
theorem atoms_ok {vars : Int} {c : C} (h : okC vars c = true) {k : Nat} (hk : k < (atomsC c).length) : 0 ≤ (atomsC c)[k].var ∧ (atomsC c)[k].var < vars ∧ 0 ≤ (atomsC c)[k].off ∧ (atomsC c)[k].off ≤ 1000 := by
  have hm : (atomsC c)[k] ∈ atomsC c := List.getElem_mem hk
  generalize (atomsC c)[k] = a at *
  rcases List.mem_append.1 hm with hm | hm
  · exact okC_frm h hm
  · rw [List.mem_singleton.1 hm]; exact okC_to h
theorem curM_bd {vars : Int} {l : List C} (h : ∀ c ∈ l, okC vars c = true) (i k : Nat) : 0 ≤ curM l i k ∧ curM l i k ≤ 1000 := by
  have h0 := mostS_bd (vars := vars) (l := l.take i) (fun c hc => h c (List.mem_of_mem_take hc))
  unfold curM
  cases hc : l[i]? with
  | none => exact h0
  | some c =>
    have hok := h c (List.mem_of_getElem? hc)
    refine fold_bd (fun a ha => ?_) _ h0.1 h0.2
    have ha := List.mem_of_mem_take ha
    have h1 := okC_to hok
    rcases List.mem_append.1 ha with hm | hm
    · have := okC_frm hok hm; omega
    · rw [List.mem_singleton.1 hm]; omega
theorem horn_Most.a (vars : Int) (l : List C) (hl : l.length ≤ 9223372036854775807) (hf : ∀ c ∈ l, c.frm.length ≤ 9223372036854775807) : Ans ctx horn_Most.n [.i .i64 vars, sV cC l] (mostV vars l) := by
  refine ans horn_Most.f ?_
  have hr := horn_Right.a vars l hl hf
  unfold mostV
  cases h1 : rightC vars l with
  | false => simp +contextual (disch := omega) [Nat.add_assoc, Int.add_assoc, if_pos, if_neg, -Int.not_lt, -Int.not_le, -Nat.not_lt, -Nat.not_le, -List.length_flatMap, horn_Most.c, ansK hr, h1]
  | true =>
    obtain ⟨r1, r2, r3, r4⟩ := right_ok h1
    have hs6 : ∀ c ∈ l, c.frm.length ≤ 100000 := fun c hc => Nat.le_trans (okC_six (r4 c hc)) (by omega)
    simp +contextual (disch := omega) [Nat.add_assoc, Int.add_assoc, if_pos, if_neg, -Int.not_lt, -Int.not_le, -Nat.not_lt, -Nat.not_le, -List.length_flatMap, horn_Most.c, ansK hr, h1, ansK (horn_atoms.a l)]
    refine gen_e (fun E => E 3 = .p 0 0 ∧ E 4 = .p 1 0 ∧ E 5 = .i .i64 0 ∧ E 13 = .fn (.func horn_atoms_1.n) [] [.rp [sV cC l]]) (by simp +contextual (disch := omega) [Nat.add_assoc, Int.add_assoc, if_pos, if_neg, -Int.not_lt, -Int.not_le, -Nat.not_lt, -Nat.not_le, -List.length_flatMap]) ?_
    rintro E ⟨E1, E2, E3, E4⟩
    refine rf_g fun A B hA hB => ?_
    simp +contextual (disch := omega) [Nat.add_assoc, Int.add_assoc, if_pos, if_neg, -Int.not_lt, -Int.not_le, -Nat.not_lt, -Nat.not_le, -List.length_flatMap, E4]
    refine atoms_w (by omega) hs6 (fun i k m => m 7 = some .dfr ∧ m 8 = some (.loop ⟨E, [14, 15], A, B, .ready, none⟩) ∧ m 0 = some (.cells [sV cC l] false) ∧ m 1 = some (.cells [.i .i64 (curM l i k)] false)) (fun _ => False) ?_ ?_ ?_ ?_ ?_ ?_
    · rintro i k m m' ⟨q1, q2, q3, q4⟩ h
      exact ⟨(h _ (by omega)).trans q1, (h _ (by omega)).trans q2, (h _ (by omega)).trans q3, (h _ (by omega)).trans q4⟩
    · have e0 : curM l 0 0 = 0 := by rw [curM_z]; rfl
      simp +contextual (disch := omega) [Nat.add_assoc, Int.add_assoc, if_pos, if_neg, -Int.not_lt, -Int.not_le, -Nat.not_lt, -Nat.not_le, -List.length_flatMap, e0]
    · rintro i hi k hk m x K' hx ⟨q1, q2, q3, q4⟩ ht hf'
      have b1 := okC_to (r4 _ (List.getElem_mem hi))
      have b2 := atoms_ok (r4 _ (List.getElem_mem hi)) hk
      have b3 := curM_bd r4 i k
      have e1 := curM_s hi hk
      refine yield_w q2 rfl rfl ?_
      generalize (atomsC l[i])[k] = a at *
      refine w_as hA ?_
      simp +contextual (disch := omega) [Nat.add_assoc, Int.add_assoc, if_pos, if_neg, -Int.not_lt, -Int.not_le, -Nat.not_lt, -Nat.not_le, -List.length_flatMap, horn_Most.a1, q2]
      refine w_as hB ?_
      simp +contextual (disch := omega) [Nat.add_assoc, Int.add_assoc, if_pos, if_neg, -Int.not_lt, -Int.not_le, -Nat.not_lt, -Nat.not_le, -List.length_flatMap, horn_Most.b2, q1, q2, q3, q4, E1, E2, hi]
      refine ht _ _ (by omega) ?_
      simp +contextual (disch := omega) [Nat.add_assoc, Int.add_assoc, if_pos, if_neg, -Int.not_lt, -Int.not_le, -Nat.not_lt, -Nat.not_le, -List.length_flatMap, q1, q2, q3, e1]
    · rintro i hi m ⟨q1, q2, q3, q4⟩
      rw [curM_e hi r4, ← curM_z] at q4
      exact ⟨q1, q2, q3, q4⟩
    · rintro m' x' hx ⟨q1, q2, q3, q4⟩
      rw [curM_z, List.take_length] at q4
      simp +contextual (disch := omega) [Nat.add_assoc, Int.add_assoc, if_pos, if_neg, -Int.not_lt, -Int.not_le, -Nat.not_lt, -Nat.not_le, -List.length_flatMap, q1, q2, q3, q4, E2]
    · rintro m' x' hx h
      exact h.elim
theorem ref08_Most.a (vars : Int) (l : List C) (hl : l.length ≤ 9223372036854775807) (hf : ∀ c ∈ l, c.frm.length ≤ 9223372036854775807) : Ans ctx ref08_Most.n [.i .i64 vars, sV cC l] (mostV vars l) := by
  refine ans ref08_Most.f ?_
  have hr := ref08_Right.a vars l hl hf
  unfold mostV
  cases h1 : rightC vars l with
  | false => simp +contextual (disch := omega) [Nat.add_assoc, Int.add_assoc, if_pos, if_neg, -Int.not_lt, -Int.not_le, -Nat.not_lt, -Nat.not_le, -List.length_flatMap, ref08_Most.c, ansK hr, h1]
  | true =>
    obtain ⟨r1, r2, r3, r4⟩ := right_ok h1
    simp +contextual (disch := omega) [Nat.add_assoc, Int.add_assoc, if_pos, if_neg, -Int.not_lt, -Int.not_le, -Nat.not_lt, -Nat.not_le, -List.length_flatMap, ref08_Most.c, ansK hr, h1]
    refine for_w (fun i e m x => e 1 = sV cC l ∧ e 5 = .i .i64 0 ∧ e 6 = .i .i64 (mostS (l.take i)) ∧ e 7 = .i .i64 i) l.length ?_ ?_ ?_
    · have e0 : mostS [] = 0 := rfl
      simp +contextual (disch := omega) [Nat.add_assoc, Int.add_assoc, if_pos, if_neg, -Int.not_lt, -Int.not_le, -Nat.not_lt, -Nat.not_le, -List.length_flatMap, e0]
    · rintro i e m x hi ⟨g1, g2, g3, g4⟩
      have hok := r4 _ (List.getElem_mem hi)
      have b1 := okC_to hok
      have b0 := mostS_bd (vars := vars) (l := l.take i) (fun c hc => r4 c (List.mem_of_mem_take hc))
      have e1 := mostS_take hi
      have hfi := hf l[i] (List.getElem_mem hi)
      simp +contextual (disch := omega) [Nat.add_assoc, Int.add_assoc, if_pos, if_neg, -Int.not_lt, -Int.not_le, -Nat.not_lt, -Nat.not_le, -List.length_flatMap, ref08_Most.b2, g1, g2, g3, g4, hi]
      refine for_w (fun k e m x => e 1 = sV cC l ∧ e 5 = .i .i64 0 ∧ e 7 = .i .i64 i ∧ e 8 = .i .i64 k ∧ e 6 = .i .i64 ((l[i].frm.take k).foldl (mostF l[i]) (mostS (l.take i)))) l[i].frm.length ?_ ?_ ?_
      · simp +contextual (disch := omega) [Nat.add_assoc, Int.add_assoc, if_pos, if_neg, -Int.not_lt, -Int.not_le, -Nat.not_lt, -Nat.not_le, -List.length_flatMap, g1, g2, g3, g4]
      · rintro k e m x hk ⟨q1, q2, q3, q4, q5⟩
        have b2 := okC_frm hok (List.getElem_mem hk)
        have e2 : (l[i].frm.take (k + 1)).foldl (mostF l[i]) (mostS (l.take i)) = _ := take_fold hk
        generalize (l[i].frm.take k).foldl (mostF l[i]) (mostS (l.take i)) = n at *
        simp +contextual (disch := omega) [Nat.add_assoc, Int.add_assoc, if_pos, if_neg, -Int.not_lt, -Int.not_le, -Nat.not_lt, -Nat.not_le, -List.length_flatMap, ref08_Most.b1, q1, q2, q3, q4, q5, hi, hk, e2, mostF]
      · rintro e m x ⟨q1, q2, q3, q4, q5⟩
        rw [List.take_length, ← e1] at q5
        simp +contextual (disch := omega) [Nat.add_assoc, Int.add_assoc, if_pos, if_neg, -Int.not_lt, -Int.not_le, -Nat.not_lt, -Nat.not_le, -List.length_flatMap, ref08_Most.b1, q1, q2, q3, q4, q5, hi]
    · rintro e m x ⟨g1, g2, g3, g4⟩
      rw [List.take_length] at g3
      simp +contextual (disch := omega) [Nat.add_assoc, Int.add_assoc, if_pos, if_neg, -Int.not_lt, -Int.not_le, -Nat.not_lt, -Nat.not_le, -List.length_flatMap, ref08_Most.b2, g1, g2, g3, g4]
/-! Names. -/
def namesV (vars : Int) (l : List C) : V := if rightC vars l = true then .tu [sV cI (namesS vars.toNat l), .i .i64 0] else .tu [sV cI [], .i .i64 1]
def nmC (c : C) (v : Nat) : Bool := (atomsC c).any fun a => decide (a.var = (v : Int))
theorem namedC_eq (l : List C) (v : Nat) : namedC l v = l.any fun c => nmC c v := rfl
def curN (l : List C) (i k v : Nat) : Bool := namedC (l.take i) v || (match l[i]? with | some c => ((atomsC c).take k).any fun a => decide (a.var = (v : Int)) | none => false)
theorem curN_z (l : List C) (i v : Nat) : curN l i 0 v = namedC (l.take i) v := by
  unfold curN
  cases l[i]? <;> simp
theorem curN_s {l : List C} {i k : Nat} (hi : i < l.length) (hk : k < (atomsC l[i]).length) (v : Nat) : curN l i (k + 1) v = (curN l i k v || decide ((atomsC l[i])[k].var = (v : Int))) := by
  unfold curN
  rw [List.getElem?_eq_getElem hi]
  simp only
  rw [take_any hk, Bool.or_assoc]
theorem curN_e {l : List C} {i : Nat} (hi : i < l.length) (v : Nat) : curN l i (atomsC l[i]).length v = namedC (l.take (i + 1)) v := by
  unfold curN
  rw [List.getElem?_eq_getElem hi]
  simp only
  rw [List.take_length, namedC_eq, namedC_eq, take_any hi]; rfl
theorem places_none {α : Type} {p : α → Bool} {l : List α} (h : ∀ a ∈ l, p a = false) : placesS p l = [] := by
  unfold placesS
  rw [List.filter_eq_nil_iff.2]
  · rfl
  · rintro ⟨a, i⟩ ha
    have := h a (List.fst_mem_of_mem_zipIdx ha)
    simp [this]
theorem places_rs (p : Nat → Bool) (n : Nat) : placesS p (List.range (n + 1)) = placesS p (List.range n) ++ if p n then [(n : Int)] else [] := by
  rw [List.range_succ, placesS_snoc]; simp
theorem places_rl (p : Nat → Bool) (n : Nat) : (placesS p (List.range n)).length ≤ n := by
  have := placesS_len p (List.range n)
  simpa using this
theorem places_range {p : Nat → Bool} (n : Nat) : ∀ d, (∀ v, n ≤ v → p v = false) → placesS p (List.range (n + d)) = placesS p (List.range n)
  | 0, _ => rfl
  | d + 1, h => by
    rw [← Nat.add_assoc, List.range_succ, placesS_snoc, h _ (by omega), places_range n d h]
    simp
theorem named_lt {vars : Int} {l : List C} (h : ∀ c ∈ l, okC vars c = true) (v : Nat) (hv : vars.toNat ≤ v) : namedC l v = false := by
  rw [namedC_eq, List.any_eq_false]
  intro c hc
  unfold nmC
  rw [Bool.not_eq_true, List.any_eq_false]
  intro a ha
  obtain ⟨k, hk, rfl⟩ := List.mem_iff_getElem.1 ha
  have := atoms_ok (h c hc) hk
  simp only [decide_eq_true_eq]
  omega
theorem set_range {n j : Nat} (p : Nat → Bool) : ((List.range n).map fun v => V.b (p v)).set j (.b true) = (List.range n).map fun v => V.b (p v || decide (v = j)) := by
  apply List.ext_getElem
  · simp
  · intro i h1 h2
    simp only [List.getElem_set, List.getElem_map, List.getElem_range]
    by_cases h : j = i
    · subst h; simp
    · rw [if_neg h]
      have : ¬ i = j := fun e => h e.symm
      simp [this]
theorem eqL_bools (l : List Nat) (p : Nat → Bool) : eqL (List.replicate l.length .b) (l.map fun v => V.b (p v)) (List.replicate l.length (V.b false)) = some (l.all fun v => !p v) := by
  induction l with
  | nil => rfl
  | cons a r ih => simp [eqL, eqK, ih, List.replicate_succ]
end Pi
