/- Contracts: clauses (layer 8): Most, Names, on both sides. -/
import Derived.Test.YtndjnkbjmddhiaaC08f
set_option linter.unusedSimpArgs false
set_option linter.unusedVariables false
namespace Pi
def mostV (vars : Int) (l : List C) : V := if rightC vars l = true then .tu [.i .i64 (mostS l), .i .i64 0] else .tu [.i .i64 0, .i .i64 1]
def mostF (c : C) (n : Int) (a : A) : Int := max n (c.to.off - a.off)
theorem mostS_eq (l : List C) : mostS l = l.foldl (fun n c => c.frm.foldl (mostF c) n) 0 := rfl
theorem mostS_take {l : List C} {i : Nat} (hi : i < l.length) : mostS (l.take (i + 1)) = l[i].frm.foldl (mostF l[i]) (mostS (l.take i)) := by
  rw [mostS_eq, take_fold hi]; rfl
theorem fold_bd {c : C} {l : List A} (hc : ∀ a ∈ l, -1000 ≤ c.to.off - a.off ∧ c.to.off - a.off ≤ 1000) : ∀ n : Int, 0 ≤ n → n ≤ 1000 → 0 ≤ l.foldl (mostF c) n ∧ l.foldl (mostF c) n ≤ 1000 := by
  intro n h0 h1
  refine fold_inv (P := fun n : Int => 0 ≤ n ∧ n ≤ 1000) (fun b a ha hb => ?_) ⟨h0, h1⟩
  have := hc a ha
  unfold mostF
  omega
theorem mostS_bd {vars : Int} {l : List C} (h : ∀ c ∈ l, okC vars c = true) : 0 ≤ mostS l ∧ mostS l ≤ 1000 := by
  rw [mostS_eq]
  refine fold_inv (P := fun n : Int => 0 ≤ n ∧ n ≤ 1000) (fun b c hc hb => fold_bd (fun a ha => ?_) b hb.1 hb.2) ⟨by omega, by omega⟩
  have h1 := okC_to (h c hc)
  have h2 := okC_frm (h c hc) ha
  omega
def curM (l : List C) (i k : Nat) : Int := match l[i]? with | some c => ((atomsC c).take k).foldl (mostF c) (mostS (l.take i)) | none => mostS (l.take i)
theorem curM_z (l : List C) (i : Nat) : curM l i 0 = mostS (l.take i) := by
  unfold curM
  cases l[i]? <;> simp
theorem curM_s {l : List C} {i k : Nat} (hi : i < l.length) (hk : k < (atomsC l[i]).length) : curM l i (k + 1) = max (curM l i k) (l[i].to.off - (atomsC l[i])[k].off) := by
  unfold curM
  rw [List.getElem?_eq_getElem hi]
  simp only
  rw [take_fold hk]; rfl
theorem curM_e {vars : Int} {l : List C} {i : Nat} (hi : i < l.length) (h : ∀ c ∈ l, okC vars c = true) : curM l i (atomsC l[i]).length = mostS (l.take (i + 1)) := by
  unfold curM
  rw [List.getElem?_eq_getElem hi]
  simp only
  rw [List.take_length, mostS_take hi, atomsC, List.foldl_append]
  have h1 := fold_bd (c := l[i]) (l := l[i].frm) (fun a ha => by
    have h1 := okC_to (h _ (List.getElem_mem hi))
    have h2 := okC_frm (h _ (List.getElem_mem hi)) ha
    omega) (mostS (l.take i)) (mostS_nonneg _) (mostS_bd (fun c hc => h c (List.mem_of_mem_take hc))).2
  simp only [List.foldl_cons, List.foldl_nil]
  generalize l[i].frm.foldl (mostF l[i]) (mostS (l.take i)) = n at *
  unfold mostF
  omega
theorem atoms_ok {vars : Int} {c : C} (h : okC vars c = true) {k : Nat} (hk : k < (atomsC c).length) : 0 ≤ (atomsC c)[k].var ∧ (atomsC c)[k].var < vars ∧ 0 ≤ (atomsC c)[k].off ∧ (atomsC c)[k].off ≤ 1000 := by
  have hm : (atomsC c)[k] ∈ atomsC c := List.getElem_mem hk
  generalize (atomsC c)[k] = a at *
  rcases List.mem_append.1 hm with hm | hm
  · exact okC_frm h hm
  · rw [List.mem_singleton.1 hm]; exact okC_to h
theorem curM_bd {vars : Int} {l : List C} (h : ∀ c ∈ l, okC vars c = true) (i k : Nat) : 0 ≤ curM l i k ∧ curM l i k ≤ 1000 := by
  have h0 := mostS_bd (vars := vars) (l := l.take i) (fun c hc => h c (List.mem_of_mem_take hc))
  unfold curM
  cases hc : l[i]? with
  | none => exact h0
  | some c =>
    have hok := h c (List.mem_of_getElem? hc)
    refine fold_bd (fun a ha => ?_) _ h0.1 h0.2
    have ha := List.mem_of_mem_take ha
    have h1 := okC_to hok
    rcases List.mem_append.1 ha with hm | hm
    · have := okC_frm hok hm; omega
    · rw [List.mem_singleton.1 hm]; omega
theorem horn_Most.a (vars : Int) (l : List C) (hl : l.length ≤ 9223372036854775807) (hf : ∀ c ∈ l, c.frm.length ≤ 9223372036854775807) : Ans ctx horn_Most.n [.i .i64 vars, sV cC l] (mostV vars l) := by
  refine ans horn_Most.f ?_
  have hr := horn_Right.a vars l hl hf
  unfold mostV
  cases h1 : rightC vars l with
  | false => simp +contextual (disch := omega) [Nat.add_assoc, Int.add_assoc, if_pos, if_neg, -Int.not_lt, -Int.not_le, -Nat.not_lt, -Nat.not_le, -List.length_flatMap, horn_Most.c, ansK hr, h1]
  | true =>
    obtain ⟨r1, r2, r3, r4⟩ := right_ok h1
    have hs6 : ∀ c ∈ l, c.frm.length ≤ 100000 := fun c hc => Nat.le_trans (okC_six (r4 c hc)) (by omega)
    simp +contextual (disch := omega) [Nat.add_assoc, Int.add_assoc, if_pos, if_neg, -Int.not_lt, -Int.not_le, -Nat.not_lt, -Nat.not_le, -List.length_flatMap, horn_Most.c, ansK hr, h1, ansK (horn_atoms.a l)]
    refine gen_e (fun E => E 3 = .p 0 0 ∧ E 4 = .p 1 0 ∧ E 5 = .i .i64 0 ∧ E 13 = .fn (.func horn_atoms_1.n) [] [.rp [sV cC l]]) (by simp +contextual (disch := omega) [Nat.add_assoc, Int.add_assoc, if_pos, if_neg, -Int.not_lt, -Int.not_le, -Nat.not_lt, -Nat.not_le, -List.length_flatMap]) ?_
    rintro E ⟨E1, E2, E3, E4⟩
    refine rf_g fun A B hA hB => ?_
    simp +contextual (disch := omega) [Nat.add_assoc, Int.add_assoc, if_pos, if_neg, -Int.not_lt, -Int.not_le, -Nat.not_lt, -Nat.not_le, -List.length_flatMap, E4]
    refine atoms_w (by omega) hs6 (fun i k m => m 7 = some .dfr ∧ m 8 = some (.loop ⟨E, [14, 15], A, B, .ready, none⟩) ∧ m 0 = some (.cells [sV cC l] false) ∧ m 1 = some (.cells [.i .i64 (curM l i k)] false)) (fun _ => False) ?_ ?_ ?_ ?_ ?_ ?_
    · rintro i k m m' ⟨q1, q2, q3, q4⟩ h
      exact ⟨(h _ (by omega)).trans q1, (h _ (by omega)).trans q2, (h _ (by omega)).trans q3, (h _ (by omega)).trans q4⟩
    · have e0 : curM l 0 0 = 0 := by rw [curM_z]; rfl
      simp +contextual (disch := omega) [Nat.add_assoc, Int.add_assoc, if_pos, if_neg, -Int.not_lt, -Int.not_le, -Nat.not_lt, -Nat.not_le, -List.length_flatMap, e0]
    · rintro i hi k hk m x K' hx ⟨q1, q2, q3, q4⟩ ht hf'
      have b1 := okC_to (r4 _ (List.getElem_mem hi))
      have b2 := atoms_ok (r4 _ (List.getElem_mem hi)) hk
      have b3 := curM_bd r4 i k
      have e1 := curM_s hi hk
      refine yield_w q2 rfl rfl ?_
      generalize (atomsC l[i])[k] = a at *
      refine w_as hA ?_
      simp +contextual (disch := omega) [Nat.add_assoc, Int.add_assoc, if_pos, if_neg, -Int.not_lt, -Int.not_le, -Nat.not_lt, -Nat.not_le, -List.length_flatMap, horn_Most.a1, q2]
      refine w_as hB ?_
      simp +contextual (disch := omega) [Nat.add_assoc, Int.add_assoc, if_pos, if_neg, -Int.not_lt, -Int.not_le, -Nat.not_lt, -Nat.not_le, -List.length_flatMap, horn_Most.b2, q1, q2, q3, q4, E1, E2, hi]
      refine ht _ _ (by omega) ?_
      simp +contextual (disch := omega) [Nat.add_assoc, Int.add_assoc, if_pos, if_neg, -Int.not_lt, -Int.not_le, -Nat.not_lt, -Nat.not_le, -List.length_flatMap, q1, q2, q3, e1]
    · rintro i hi m ⟨q1, q2, q3, q4⟩
      rw [curM_e hi r4, ← curM_z] at q4
      exact ⟨q1, q2, q3, q4⟩
    · rintro m' x' hx ⟨q1, q2, q3, q4⟩
      rw [curM_z, List.take_length] at q4
      simp +contextual (disch := omega) [Nat.add_assoc, Int.add_assoc, if_pos, if_neg, -Int.not_lt, -Int.not_le, -Nat.not_lt, -Nat.not_le, -List.length_flatMap, q1, q2, q3, q4, E2]
    · rintro m' x' hx h
      exact h.elim
theorem ref08_Most.a (vars : Int) (l : List C) (hl : l.length ≤ 9223372036854775807) (hf : ∀ c ∈ l, c.frm.length ≤ 9223372036854775807) : Ans ctx ref08_Most.n [.i .i64 vars, sV cC l] (mostV vars l) := by
  refine ans ref08_Most.f ?_
  have hr := ref08_Right.a vars l hl hf
  unfold mostV
  cases h1 : rightC vars l with
  | false => simp +contextual (disch := omega) [Nat.add_assoc, Int.add_assoc, if_pos, if_neg, -Int.not_lt, -Int.not_le, -Nat.not_lt, -Nat.not_le, -List.length_flatMap, ref08_Most.c, ansK hr, h1]
  | true =>
    obtain ⟨r1, r2, r3, r4⟩ := right_ok h1
    simp +contextual (disch := omega) [Nat.add_assoc, Int.add_assoc, if_pos, if_neg, -Int.not_lt, -Int.not_le, -Nat.not_lt, -Nat.not_le, -List.length_flatMap, ref08_Most.c, ansK hr, h1]
    refine for_w (fun i e m x => e 1 = sV cC l ∧ e 5 = .i .i64 0 ∧ e 6 = .i .i64 (mostS (l.take i)) ∧ e 7 = .i .i64 i) l.length ?_ ?_ ?_
    · have e0 : mostS [] = 0 := rfl
      simp +contextual (disch := omega) [Nat.add_assoc, Int.add_assoc, if_pos, if_neg, -Int.not_lt, -Int.not_le, -Nat.not_lt, -Nat.not_le, -List.length_flatMap, e0]
    · rintro i e m x hi ⟨g1, g2, g3, g4⟩
      have hok := r4 _ (List.getElem_mem hi)
      have b1 := okC_to hok
      have b0 := mostS_bd (vars := vars) (l := l.take i) (fun c hc => r4 c (List.mem_of_mem_take hc))
      have e1 := mostS_take hi
      have hfi := hf l[i] (List.getElem_mem hi)
      simp +contextual (disch := omega) [Nat.add_assoc, Int.add_assoc, if_pos, if_neg, -Int.not_lt, -Int.not_le, -Nat.not_lt, -Nat.not_le, -List.length_flatMap, ref08_Most.b2, g1, g2, g3, g4, hi]
      refine for_w (fun k e m x => e 1 = sV cC l ∧ e 5 = .i .i64 0 ∧ e 7 = .i .i64 i ∧ e 8 = .i .i64 k ∧ e 6 = .i .i64 ((l[i].frm.take k).foldl (mostF l[i]) (mostS (l.take i)))) l[i].frm.length ?_ ?_ ?_
      · simp +contextual (disch := omega) [Nat.add_assoc, Int.add_assoc, if_pos, if_neg, -Int.not_lt, -Int.not_le, -Nat.not_lt, -Nat.not_le, -List.length_flatMap, g1, g2, g3, g4]
      · rintro k e m x hk ⟨q1, q2, q3, q4, q5⟩
        have b2 := okC_frm hok (List.getElem_mem hk)
        have e2 : (l[i].frm.take (k + 1)).foldl (mostF l[i]) (mostS (l.take i)) = _ := take_fold hk
        generalize (l[i].frm.take k).foldl (mostF l[i]) (mostS (l.take i)) = n at *
        simp +contextual (disch := omega) [Nat.add_assoc, Int.add_assoc, if_pos, if_neg, -Int.not_lt, -Int.not_le, -Nat.not_lt, -Nat.not_le, -List.length_flatMap, ref08_Most.b1, q1, q2, q3, q4, q5, hi, hk, e2, mostF]
      · rintro e m x ⟨q1, q2, q3, q4, q5⟩
        rw [List.take_length, ← e1] at q5
        simp +contextual (disch := omega) [Nat.add_assoc, Int.add_assoc, if_pos, if_neg, -Int.not_lt, -Int.not_le, -Nat.not_lt, -Nat.not_le, -List.length_flatMap, ref08_Most.b1, q1, q2, q3, q4, q5, hi]
    · rintro e m x ⟨g1, g2, g3, g4⟩
      rw [List.take_length] at g3
      simp +contextual (disch := omega) [Nat.add_assoc, Int.add_assoc, if_pos, if_neg, -Int.not_lt, -Int.not_le, -Nat.not_lt, -Nat.not_le, -List.length_flatMap, ref08_Most.b2, g1, g2, g3, g4]
/-! Names. -/
def namesV (vars : Int) (l : List C) : V := if rightC vars l = true then .tu [sV cI (namesS vars.toNat l), .i .i64 0] else .tu [sV cI [], .i .i64 1]
def nmC (c : C) (v : Nat) : Bool := (atomsC c).any fun a => decide (a.var = (v : Int))
theorem namedC_eq (l : List C) (v : Nat) : namedC l v = l.any fun c => nmC c v := rfl
def curN (l : List C) (i k v : Nat) : Bool := namedC (l.take i) v || (match l[i]? with | some c => ((atomsC c).take k).any fun a => decide (a.var = (v : Int)) | none => false)
theorem curN_z (l : List C) (i v : Nat) : curN l i 0 v = namedC (l.take i) v := by
  unfold curN
  cases l[i]? <;> simp
theorem curN_s {l : List C} {i k : Nat} (hi : i < l.length) (hk : k < (atomsC l[i]).length) (v : Nat) : curN l i (k + 1) v = (curN l i k v || decide ((atomsC l[i])[k].var = (v : Int))) := by
  unfold curN
  rw [List.getElem?_eq_getElem hi]
  simp only
  rw [take_any hk, Bool.or_assoc]
theorem curN_e {l : List C} {i : Nat} (hi : i < l.length) (v : Nat) : curN l i (atomsC l[i]).length v = namedC (l.take (i + 1)) v := by
  unfold curN
  rw [List.getElem?_eq_getElem hi]
  simp only
  rw [List.take_length, namedC_eq, namedC_eq, take_any hi]; rfl
theorem places_none {α : Type} {p : α → Bool} {l : List α} (h : ∀ a ∈ l, p a = false) : placesS p l = [] := by
  unfold placesS
  rw [List.filter_eq_nil_iff.2]
  · rfl
  · rintro ⟨a, i⟩ ha
    have := h a (List.fst_mem_of_mem_zipIdx ha)
    simp [this]
theorem places_rs (p : Nat → Bool) (n : Nat) : placesS p (List.range (n + 1)) = placesS p (List.range n) ++ if p n then [(n : Int)] else [] := by
  rw [List.range_succ, placesS_snoc]; simp
theorem places_rl (p : Nat → Bool) (n : Nat) : (placesS p (List.range n)).length ≤ n := by
  have := placesS_len p (List.range n)
  simpa using this
theorem places_range {p : Nat → Bool} (n : Nat) : ∀ d, (∀ v, n ≤ v → p v = false) → placesS p (List.range (n + d)) = placesS p (List.range n)
  | 0, _ => rfl
  | d + 1, h => by
    rw [← Nat.add_assoc, List.range_succ, placesS_snoc, h _ (by omega), places_range n d h]
    simp
theorem named_lt {vars : Int} {l : List C} (h : ∀ c ∈ l, okC vars c = true) (v : Nat) (hv : vars.toNat ≤ v) : namedC l v = false := by
  rw [namedC_eq, List.any_eq_false]
  intro c hc
  unfold nmC
  rw [Bool.not_eq_true, List.any_eq_false]
  intro a ha
  obtain ⟨k, hk, rfl⟩ := List.mem_iff_getElem.1 ha
  have := atoms_ok (h c hc) hk
  simp only [decide_eq_true_eq]
  omega
theorem set_range {n j : Nat} (p : Nat → Bool) : ((List.range n).map fun v => V.b (p v)).set j (.b true) = (List.range n).map fun v => V.b (p v || decide (v = j)) := by
  apply List.ext_getElem
  · simp
  · intro i h1 h2
    simp only [List.getElem_set, List.getElem_map, List.getElem_range]
    by_cases h : j = i
    · subst h; simp
    · rw [if_neg h]
      have : ¬ i = j := fun e => h e.symm
      simp [this]
theorem eqL_bools (l : List Nat) (p : Nat → Bool) : eqL (List.replicate l.length .b) (l.map fun v => V.b (p v)) (List.replicate l.length (V.b false)) = some (l.all fun v => !p v) := by
  induction l with
  | nil => rfl
  | cons a r ih => simp [eqL, eqK, ih, List.replicate_succ]
theorem horn_Names.a (vars : Int) (l : List C) (hl : l.length ≤ 9223372036854775807) (hf : ∀ c ∈ l, c.frm.length ≤ 9223372036854775807) : Ans ctx horn_Names.n [.i .i64 vars, sV cC l] (namesV vars l) := by
  refine ans horn_Names.f ?_
  have hr := horn_Right.a vars l hl hf
  unfold namesV
  cases h1 : rightC vars l with
  | false => simp +contextual (disch := omega) [Nat.add_assoc, Int.add_assoc, if_pos, if_neg, -Int.not_lt, -Int.not_le, -Nat.not_lt, -Nat.not_le, -List.length_flatMap, horn_Names.c, ansK hr, h1]
  | true =>
    obtain ⟨r1, r2, r3, r4⟩ := right_ok h1
    have hs6 : ∀ c ∈ l, c.frm.length ≤ 100000 := fun c hc => Nat.le_trans (okC_six (r4 c hc)) (by omega)
    simp +contextual (disch := omega) [Nat.add_assoc, Int.add_assoc, if_pos, if_neg, -Int.not_lt, -Int.not_le, -Nat.not_lt, -Nat.not_le, -List.length_flatMap, horn_Names.c, ansK hr, h1, ansK (horn_atoms.a l)]
    refine gen_e (fun E => E 4 = .ns ∧ E 5 = .i .i64 0 ∧ E 6 = .p 5 0 ∧ E 16 = .fn (.func horn_atoms_1.n) [] [.rp [sV cC l]]) (by simp +contextual (disch := omega) [Nat.add_assoc, Int.add_assoc, if_pos, if_neg, -Int.not_lt, -Int.not_le, -Nat.not_lt, -Nat.not_le, -List.length_flatMap]) ?_
    rintro E ⟨E1, E2, E3, E4⟩
    refine rf_g fun A B hA hB => ?_
    simp +contextual (disch := omega) [Nat.add_assoc, Int.add_assoc, if_pos, if_neg, -Int.not_lt, -Int.not_le, -Nat.not_lt, -Nat.not_le, -List.length_flatMap, E4]
    refine atoms_w (by omega) hs6 (fun i k m => m 7 = some .dfr ∧ m 8 = some (.loop ⟨E, [17, 18], A, B, .ready, none⟩) ∧ m 5 = some (.cells ((List.range 16).map fun v => V.b (curN l i k v)) false)) (fun _ => False) ?_ ?_ ?_ ?_ ?_ ?_
    · rintro i k m m' ⟨q1, q2, q3⟩ h
      exact ⟨(h _ (by omega)).trans q1, (h _ (by omega)).trans q2, (h _ (by omega)).trans q3⟩
    · have e0 : ∀ v, curN l 0 0 v = false := by intro v; rw [curN_z]; rfl
      have e1 : (List.range 16).map (fun v => V.b (curN l 0 0 v)) = (List.range 16).map fun _ => V.b false := by simp only [e0]
      rw [e1]
      simp +contextual (disch := omega) [Nat.add_assoc, Int.add_assoc, if_pos, if_neg, -Int.not_lt, -Int.not_le, -Nat.not_lt, -Nat.not_le, -List.length_flatMap]
      rfl
    · rintro i hi k hk m x K' hx ⟨q1, q2, q3⟩ ht hf'
      have b2 := atoms_ok (r4 _ (List.getElem_mem hi)) hk
      have e1 := curN_s hi hk
      refine yield_w q2 rfl rfl ?_
      generalize (atomsC l[i])[k] = a at *
      refine w_as hA ?_
      simp +contextual (disch := omega) [Nat.add_assoc, Int.add_assoc, if_pos, if_neg, -Int.not_lt, -Int.not_le, -Nat.not_lt, -Nat.not_le, -List.length_flatMap, horn_Names.a1, q2]
      refine w_as hB ?_
      simp +contextual (disch := omega) [Nat.add_assoc, Int.add_assoc, if_pos, if_neg, -Int.not_lt, -Int.not_le, -Nat.not_lt, -Nat.not_le, -List.length_flatMap, horn_Names.b2, q1, q2, q3, E3]
      refine ht _ _ (by omega) ?_
      simp +contextual (disch := omega) [Nat.add_assoc, Int.add_assoc, if_pos, if_neg, -Int.not_lt, -Int.not_le, -Nat.not_lt, -Nat.not_le, -List.length_flatMap, q1, q2]
      rw [take_set (by simp; omega), set_range]
      have e2 : ∀ v, curN l i (k + 1) v = (curN l i k v || decide (v = a.var.toNat)) := by
        intro v
        rw [e1 v]
        congr 1
        rw [Bool.eq_iff_iff]
        simp only [decide_eq_true_eq]
        omega
      simp only [e2]
    · rintro i hi m ⟨q1, q2, q3⟩
      simp only [curN_e hi, ← curN_z] at q3
      exact ⟨q1, q2, q3⟩
    · rintro m' x' hx ⟨q1, q2, q3⟩
      simp only [curN_z, List.take_length] at q3
      have hq : eqQ (.many (List.replicate 16 .b)) (.ag ((List.range 16).map fun v => V.b (namedC l v))) (.ag (List.replicate 16 (V.b false))) = some ((List.range 16).all fun v => !namedC l v) := eqL_bools (List.range 16) (namedC l)
      have e16 : placesS (namedC l) (List.range 16) = placesS (namedC l) (List.range vars.toNat) := by
        obtain ⟨d, hd⟩ : ∃ d, 16 = vars.toNat + d := ⟨16 - vars.toNat, by omega⟩
        rw [hd]
        exact places_range _ d (named_lt r4)
      unfold namesS
      rw [← e16]
      generalize hcs : (List.range 16).map (fun v => V.b (namedC l v)) = cs at *
      have hcl : cs.length = 16 := by rw [← hcs]; simp
      cases hall : (List.range 16).all fun v => !namedC l v with
      | true =>
        rw [hall] at hq
        have hnone : placesS (namedC l) (List.range 16) = [] := places_none fun v hv => by
          have := List.all_eq_true.1 hall v hv
          simpa using this
        rw [hnone]
        simp only [List.replicate] at hq
        simp +contextual (disch := omega) [Nat.add_assoc, Int.add_assoc, if_pos, if_neg, -Int.not_lt, -Int.not_le, -Nat.not_lt, -Nat.not_le, -List.length_flatMap, q1, q2, q3, E1, E2, E3, hcl, hq, List.take_of_length_le]
      | false =>
        rw [hall] at hq
        simp only [List.replicate] at hq
        simp +contextual (disch := omega) [Nat.add_assoc, Int.add_assoc, if_pos, if_neg, -Int.not_lt, -Int.not_le, -Nat.not_lt, -Nat.not_le, -List.length_flatMap, q1, q2, q3, E1, E2, E3, hcl, hq, List.take_of_length_le]
        refine for_w (fun i e m x => e 5 = .i .i64 0 ∧ e 25 = .ag cs ∧ e 26 = .i .i64 i ∧ m 7 = some .dfr ∧ Bf m (e 4) cI 1 (placesS (namedC l) (List.range i)) 9 x ∧ 9 ≤ x) 16 ?_ ?_ ?_
        · simp +contextual (disch := omega) [Nat.add_assoc, Int.add_assoc, if_pos, if_neg, -Int.not_lt, -Int.not_le, -Nat.not_lt, -Nat.not_le, -List.length_flatMap, E1, E2, q1, placesS_nil, Bf.nil]
          omega
        · rintro i e m x hi ⟨g1, g2, g3, g4, g5, g6⟩
          have hp := places_rs (namedC l) i
          have hpl := places_rl (namedC l) i
          have hi' : i < cs.length := by omega
          have hci : cs[i] = .b (namedC l i) := by simp [← hcs]
          cases hb : namedC l i with
          | false =>
            simp [hb] at hp
            rw [hb] at hci
            simp +contextual (disch := omega) [Nat.add_assoc, Int.add_assoc, if_pos, if_neg, -Int.not_lt, -Int.not_le, -Nat.not_lt, -Nat.not_le, -List.length_flatMap, horn_Names.b3, g1, g2, g3, g4, hci, hp, hi']
            exact ⟨g5.up (by omega) (by simp +contextual (disch := omega) [Nat.add_assoc, Int.add_assoc, if_pos, if_neg, -Int.not_lt, -Int.not_le, -Nat.not_lt, -Nat.not_le, -List.length_flatMap]), by omega⟩
          | true =>
            simp [hb] at hp
            rw [hb] at hci
            simp +contextual (disch := omega) [Nat.add_assoc, Int.add_assoc, if_pos, if_neg, -Int.not_lt, -Int.not_le, -Nat.not_lt, -Nat.not_le, -List.length_flatMap, horn_Names.b3, g1, g2, g3, g4, hci, hi']
            refine g5.ap [(i : Int)] (by simp +contextual (disch := omega) [Nat.add_assoc, Int.add_assoc, if_pos, if_neg, -Int.not_lt, -Int.not_le, -Nat.not_lt, -Nat.not_le, -List.length_flatMap]) (by omega) (by omega) (by simp) rfl (by simp; omega) ?_
            intro B' ws m2 q0 q1 q2 q3
            simp +contextual (disch := omega) [Nat.add_assoc, Int.add_assoc, if_pos, if_neg, -Int.not_lt, -Int.not_le, -Nat.not_lt, -Nat.not_le, -List.length_flatMap, q0, g1, g2, g3, g4, q2]
            exact q1.to hp.symm (by omega)
        · rintro e m x ⟨g1, g2, g3, g4, g5, g6⟩
          have hz := (g5.up (x' := x) (m' := m.set 7 none) (Nat.le_refl _) (by simp +contextual (disch := omega) [Nat.add_assoc, Int.add_assoc, if_pos, if_neg, -Int.not_lt, -Int.not_le, -Nat.not_lt, -Nat.not_le, -List.length_flatMap])).fz24
          simp +contextual (disch := omega) [Nat.add_assoc, Int.add_assoc, if_pos, if_neg, -Int.not_lt, -Int.not_le, -Nat.not_lt, -Nat.not_le, -List.length_flatMap, horn_Names.b3, g1, g2, g3, g4, hz]
    · rintro m' x' hx h
      exact h.elim
theorem ref08_Names.a (vars : Int) (l : List C) (hl : l.length ≤ 9223372036854775807) (hf : ∀ c ∈ l, c.frm.length ≤ 9223372036854775807) : Ans ctx ref08_Names.n [.i .i64 vars, sV cC l] (namesV vars l) := by
  refine ans ref08_Names.f ?_
  have hr := ref08_Right.a vars l hl hf
  unfold namesV
  cases h1 : rightC vars l with
  | false => simp +contextual (disch := omega) [Nat.add_assoc, Int.add_assoc, if_pos, if_neg, -Int.not_lt, -Int.not_le, -Nat.not_lt, -Nat.not_le, -List.length_flatMap, ref08_Names.c, ansK hr, h1]
  | true =>
    obtain ⟨r1, r2, r3, r4⟩ := right_ok h1
    simp +contextual (disch := omega) [Nat.add_assoc, Int.add_assoc, if_pos, if_neg, -Int.not_lt, -Int.not_le, -Nat.not_lt, -Nat.not_le, -List.length_flatMap, ref08_Names.c, ansK hr, h1]
    refine for_w (fun v e m x => e 0 = .i .i64 vars ∧ e 1 = sV cC l ∧ e 5 = .i .i64 0 ∧ e 7 = .i .i64 v ∧ Bf m (e 6) cI 1 (placesS (namedC l) (List.range v)) 0 x) vars.toNat ?_ ?_ ?_
    · simp +contextual (disch := omega) [Nat.add_assoc, Int.add_assoc, if_pos, if_neg, -Int.not_lt, -Int.not_le, -Nat.not_lt, -Nat.not_le, -List.length_flatMap, placesS_nil, Bf.nil]
    · rintro v e m x hv ⟨g1, g2, g3, g4, g5⟩
      have hp := places_rs (namedC l) v
      have hpl := places_rl (namedC l) v
      simp +contextual (disch := omega) [Nat.add_assoc, Int.add_assoc, if_pos, if_neg, -Int.not_lt, -Int.not_le, -Nat.not_lt, -Nat.not_le, -List.length_flatMap, ref08_Names.b3, g1, g2, g3, g4]
      refine for_w (fun i e m x => e 0 = .i .i64 vars ∧ e 1 = sV cC l ∧ e 5 = .i .i64 0 ∧ e 7 = .i .i64 v ∧ e 9 = .i .i64 i ∧ e 8 = .b ((l.take i).any fun c => nmC c v) ∧ Bf m (e 6) cI 1 (placesS (namedC l) (List.range v)) 0 x) l.length ?_ ?_ ?_
      · simp +contextual (disch := omega) [Nat.add_assoc, Int.add_assoc, if_pos, if_neg, -Int.not_lt, -Int.not_le, -Nat.not_lt, -Nat.not_le, -List.length_flatMap, g1, g2, g3, g4]
        exact g5.up (by omega) (by simp +contextual (disch := omega) [Nat.add_assoc, Int.add_assoc, if_pos, if_neg, -Int.not_lt, -Int.not_le, -Nat.not_lt, -Nat.not_le, -List.length_flatMap])
      · rintro i e m x hi ⟨q1, q2, q3, q4, q5, q6, q7⟩
        have hfi := hf l[i] (List.getElem_mem hi)
        have ei := take_any (p := fun c => nmC c v) hi
        have en : nmC l[i] v = (l[i].frm.any (fun a => decide (a.var = (v : Int))) || decide (l[i].to.var = (v : Int))) := by simp [nmC, atomsC]
        have st : ∀ k (hk : k < l[i].frm.length) (b : Bool), (b || (l[i].frm.take (k + 1)).any fun a => decide (a.var = (v : Int))) = ((b || (l[i].frm.take k).any fun a => decide (a.var = (v : Int))) || decide (l[i].frm[k].var = (v : Int))) := by
          intro k hk b
          rw [take_any hk, Bool.or_assoc]
        cases hb : (l.take i).any fun c => nmC c v
        all_goals (simp +contextual (disch := omega) [Nat.add_assoc, Int.add_assoc, if_pos, if_neg, -Int.not_lt, -Int.not_le, -Nat.not_lt, -Nat.not_le, -List.length_flatMap, ref08_Names.b2, q1, q2, q3, q4, q5, q6, hi, hb])
        all_goals refine for_w (fun k e m x => e 0 = .i .i64 vars ∧ e 1 = sV cC l ∧ e 5 = .i .i64 0 ∧ e 7 = .i .i64 v ∧ e 9 = .i .i64 i ∧ e 10 = .i .i64 k ∧ e 8 = .b (((l.take i).any (fun c => nmC c v) || decide (l[i].to.var = (v : Int))) || (l[i].frm.take k).any fun a => decide (a.var = (v : Int))) ∧
          Bf m (e 6) cI 1 (placesS (namedC l) (List.range v)) 0 x) l[i].frm.length ?_ ?_ ?_
        any_goals
          rintro k e m x hk ⟨p1, p2, p3, p4, p5, p6, p7, p8⟩
          rw [st k hk]
          cases hq : ((l.take i).any (fun c => nmC c v) || decide (l[i].to.var = (v : Int))) || (l[i].frm.take k).any fun a => decide (a.var = (v : Int))
          all_goals (rw [hq] at p7)
          all_goals (simp +contextual (disch := omega) [Nat.add_assoc, Int.add_assoc, if_pos, if_neg, -Int.not_lt, -Int.not_le, -Nat.not_lt, -Nat.not_le, -List.length_flatMap, ref08_Names.b1, p1, p2, p3, p4, p5, p6, p7, hi, hk])
          all_goals exact p8.up (by omega) (by simp +contextual (disch := omega) [Nat.add_assoc, Int.add_assoc, if_pos, if_neg, -Int.not_lt, -Int.not_le, -Nat.not_lt, -Nat.not_le, -List.length_flatMap])
        any_goals
          rintro e m x ⟨p1, p2, p3, p4, p5, p6, p7, p8⟩
          have e3 : ((l.take (i + 1)).any fun c => nmC c v) = (((l.take i).any (fun c => nmC c v) || decide (l[i].to.var = (v : Int))) || (l[i].frm.take l[i].frm.length).any fun a => decide (a.var = (v : Int))) := by
            rw [ei, en, List.take_length, Bool.or_assoc]
            congr 1
            exact Bool.or_comm _ _
          rw [← e3] at p7
          simp +contextual (disch := omega) [Nat.add_assoc, Int.add_assoc, if_pos, if_neg, -Int.not_lt, -Int.not_le, -Nat.not_lt, -Nat.not_le, -List.length_flatMap, ref08_Names.b1, p1, p2, p3, p4, p5, p6, p7, hi]
          exact p8.up (by omega) (by simp +contextual (disch := omega) [Nat.add_assoc, Int.add_assoc, if_pos, if_neg, -Int.not_lt, -Int.not_le, -Nat.not_lt, -Nat.not_le, -List.length_flatMap])
        all_goals (simp +contextual (disch := omega) [Nat.add_assoc, Int.add_assoc, if_pos, if_neg, -Int.not_lt, -Int.not_le, -Nat.not_lt, -Nat.not_le, -List.length_flatMap, q1, q2, q3, q4, q5, hb])
        all_goals exact q7.up (by omega) (by simp +contextual (disch := omega) [Nat.add_assoc, Int.add_assoc, if_pos, if_neg, -Int.not_lt, -Int.not_le, -Nat.not_lt, -Nat.not_le, -List.length_flatMap])
      · rintro e m x ⟨q1, q2, q3, q4, q5, q6, q7⟩
        rw [List.take_length, ← namedC_eq] at q6
        cases hb : namedC l v with
        | false =>
          simp [hb] at hp
          simp +contextual (disch := omega) [Nat.add_assoc, Int.add_assoc, if_pos, if_neg, -Int.not_lt, -Int.not_le, -Nat.not_lt, -Nat.not_le, -List.length_flatMap, ref08_Names.b2, q1, q2, q3, q4, q5, q6, hb, hp]
          exact q7.up (by omega) (by simp +contextual (disch := omega) [Nat.add_assoc, Int.add_assoc, if_pos, if_neg, -Int.not_lt, -Int.not_le, -Nat.not_lt, -Nat.not_le, -List.length_flatMap])
        | true =>
          simp [hb] at hp
          simp +contextual (disch := omega) [Nat.add_assoc, Int.add_assoc, if_pos, if_neg, -Int.not_lt, -Int.not_le, -Nat.not_lt, -Nat.not_le, -List.length_flatMap, ref08_Names.b2, q1, q2, q3, q4, q5, q6, hb]
          refine q7.ap [(v : Int)] (by simp +contextual (disch := omega) [Nat.add_assoc, Int.add_assoc, if_pos, if_neg, -Int.not_lt, -Int.not_le, -Nat.not_lt, -Nat.not_le, -List.length_flatMap]) (by omega) (by omega) (by simp) rfl (by simp; omega) ?_
          intro B' ws m2 o0 o1 o2 o3
          simp +contextual (disch := omega) [Nat.add_assoc, Int.add_assoc, if_pos, if_neg, -Int.not_lt, -Int.not_le, -Nat.not_lt, -Nat.not_le, -List.length_flatMap, o0, q1, q2, q3, q4]
          exact o1.to hp.symm (by omega)
    · rintro e m x ⟨g1, g2, g3, g4, g5⟩
      have hz := g5.fz24
      simp +contextual (disch := omega) [Nat.add_assoc, Int.add_assoc, if_pos, if_neg, -Int.not_lt, -Int.not_le, -Nat.not_lt, -Nat.not_le, -List.length_flatMap, ref08_Names.b3, g1, g2, g3, g4, hz, namesS]
end Pi
