/- What follows from clauses: plain laws. -/
import Derived.Test.YtfdkpnckflmcaaaC11j
import Derived.Test.YtfdkpnckflmcaaaC09g
set_option linter.unusedSimpArgs false
set_option linter.unusedVariables false
namespace Pi
theorem minS_gt {m : List Int} {l : List A} (hne : l ≠ []) {t : Int} : t < minS m l ↔ ∀ a ∈ l, t < atS m a := by
  constructor
  · intro h a ha
    have := minS_le m l a ha
    omega
  · intro h
    obtain ⟨a, ha, e⟩ := minS_mem m l hne
    rw [e]
    exact h a ha
theorem minS_one (m : List Int) (a : A) : minS m [a] = atS m a := by simp [minS]
theorem against_iff {a : A} {b : List A} {M : List Int} (hb : b ≠ []) : holdsC (againstL a b) M ↔ brokenC M ⟨b, a⟩ = true := by
  have h1 : brokenC M ⟨b, a⟩ = true ↔ atS M a < minS M b := by
    unfold brokenC asksS atS
    simp only [decide_eq_true_eq]
    omega
  rw [h1, minS_gt hb]
  unfold holdsC againstL
  simp only [List.mem_map, forall_exists_index, and_imp, forall_apply_eq_imp_iff₂]
  refine forall_congr' fun x => forall_congr' fun _ => ?_
  unfold brokenC asksS
  rw [minS_one]
  unfold atS
  simp only [decide_eq_false_iff_not]
  omega
section
variable {v k : Nat} {s : St} {a : A} {b : List A}
theorem follows_v (h : Gd v k s) (hc : rightC v [⟨b, a⟩] = true) (hoff : b.any greatA = false) (hl : k + b.length ≤ 60) : followsV s a b = .tu [.b (!(solveC v (s.cl ++ againstL a b)).2.1), .i .i64 0] := by
  have := h.len
  unfold followsV
  rw [h.right, h.vars, hc, hoff, if_neg (by simp), if_neg (by simp; omega), Int.toNat_natCast]
theorem Gd.all (h : Gd v k s) : ∀ c ∈ s.cl, okC v c = true := (right_ok h.cl).2.2.2
theorem Gd.v1 (h : Gd v k s) : 0 < v := by have := (right_ok h.cl).1; omega
theorem Gd.least (h : Gd v k s) : LeastM s.cl (noughts v) s.md ∧ ∀ i, s.md.getD i 0 ≤ limC v s.cl 0 := by
  rcases solve_spec h.v1 h.all with ⟨h1, h2, h3⟩ | ⟨h1, _⟩
  · rw [h.sol.2] at h2 h3
    exact ⟨h2, h3⟩
  · rw [h.sol.1] at h1; cases h1
theorem Gd.nats (h : Gd v k s) : Nats s.md ∧ s.md.length = v := by
  have hb := limC_bd h.cl 0 (by omega) (by omega)
  exact ⟨h.least.1.nats h.least.2 (by omega), by rw [h.least.1.len, noughts_len]⟩
theorem addS_on (h : Gd v k s) {l : List C} (hs : (solveC v (s.cl ++ l)).2.1 = true) : addS s l = ⟨v, s.cl ++ l, (solveC v (s.cl ++ l)).1⟩ := by
  unfold addS
  rw [h.vars, Int.toNat_natCast, if_pos hs]
theorem addS_off (h : Gd v k s) {l : List C} (hs : (solveC v (s.cl ++ l)).2.1 = false) : addS s l = s := by
  unfold addS
  rw [h.vars, Int.toNat_natCast, if_neg (by rw [hs]; simp)]
theorem against_ok (h : Gd v k s) (hc : rightC v [⟨b, a⟩] = true) (hoff : b.any greatA = false) (hl : k + b.length ≤ 60) : rightC v (s.cl ++ againstL a b) = true :=
  right_app h.cl (against_right hc hoff (by omega)) (by rw [against_len]; have := h.len; omega)
/-- What follows holds of each model. -/
theorem follows_holds (h : Gd v k s) (hb : b ≠ []) (hc : rightC v [⟨b, a⟩] = true) (hoff : b.any greatA = false) (hl : k + b.length ≤ 60) (hs : (solveC v (s.cl ++ againstL a b)).2.1 = false)
    {M : List Int} (hM : M.length = v) (h0 : ∀ i, 0 ≤ M.getD i 0) (hh : holdsC s.cl M) : brokenC M ⟨b, a⟩ = false := by
  have hN := (solve_iff h.v1 (right_ok (against_ok h hc hoff hl)).2.2.2).1 hs
  cases hbr : brokenC M ⟨b, a⟩ with
  | false => rfl
  | true => exact (hN M hM h0 (holds_app.2 ⟨hh, (against_iff hb).2 hbr⟩)).elim
theorem follows_add (h : Gd v k s) (hb : b ≠ []) (hc : rightC v [⟨b, a⟩] = true) (hoff : b.any greatA = false) (hl : k + b.length ≤ 60) (hk : k + 1 ≤ 60) (hs : (solveC v (s.cl ++ againstL a b)).2.1 = false) :
    (solveC v (s.cl ++ [⟨b, a⟩])).2.1 = true ∧ (solveC v (s.cl ++ [⟨b, a⟩])).1 = s.md := by
  have hL := h.least.1
  have hm := follows_holds h hb hc hoff hl hs (M := s.md) h.nats.2 (le_noughts.1 hL.ge) hL.holds
  have hall : holdsC (s.cl ++ [⟨b, a⟩]) s.md := holds_app.2 ⟨hL.holds, fun c hcc => by rw [List.mem_singleton.1 hcc]; exact hm⟩
  have hR := right_app h.cl hc (by have := h.len; simp; omega)
  rcases solve_spec h.v1 (right_ok hR).2.2.2 with ⟨h1, h2, _⟩ | ⟨_, _, h2⟩
  · refine ⟨h1, h2.unique (l' := s.cl ++ [⟨b, a⟩]) ⟨hL.len, hL.ge, hall, fun M q1 q2 q3 => hL.least M q1 q2 (holds_app.1 q3).1⟩ (fun _ => Iff.rfl)⟩
  · exact (h2 s.md h.nats.2 (le_noughts.1 hL.ge) hall).elim
theorem follows_more (h : Gd v k s) (hc : rightC v [⟨b, a⟩] = true) (hoff : b.any greatA = false) (hl : k + b.length ≤ 60) (hs : (solveC v (s.cl ++ againstL a b)).2.1 = false) {d : List C}
    (hd : rightC v ((s.cl ++ d) ++ againstL a b) = true) : (solveC v ((s.cl ++ d) ++ againstL a b)).2.1 = false := by
  have hN := (solve_iff h.v1 (right_ok (against_ok h hc hoff hl)).2.2.2).1 hs
  refine (solve_iff h.v1 (right_ok hd).2.2.2).2 (hN.more fun c hcc => ?_)
  rcases List.mem_append.1 hcc with hcc | hcc
  · simp [hcc]
  · simp [hcc]
end
theorem atomsB_ok (n : Nat) (l : List Nat) : ∀ x ∈ atomsB n l, okA (varsB n) x = true ∧ (0 ≤ x.off ∧ x.off ≤ 3) := by
  intro x hx
  obtain ⟨y, _, rfl⟩ := List.mem_map.1 hx
  have := varsB_bd n
  have h1 : y % varsB n < varsB n := Nat.mod_lt _ (by omega)
  simp [okA]
  omega
theorem atoms_right {n : Nat} {l : List Nat} {a : A} {b : List A} (h : atomsB n l = a :: b) (hb : b ≠ []) : rightC (varsB n) [⟨b, a⟩] = true ∧ b.any greatA = false ∧ b.length ≤ 3 := by
  have hl := atomsB_len n l
  have hk := atomsB_ok n l
  rw [h] at hl hk
  have hv := varsB_bd n
  have hb1 : 0 < b.length := List.length_pos_iff.2 hb
  simp only [List.length_cons] at hl
  refine ⟨?_, ?_, by omega⟩
  · refine one_right (by omega) (by omega) ?_
    simp only [okC, Bool.and_eq_true, List.all_eq_true]
    refine ⟨by simp [manyC]; omega, fun x hx => ?_⟩
    rcases List.mem_append.1 hx with hx | hx
    · exact (hk x (by simp [hx])).1
    · rw [List.mem_singleton.1 hx]; exact (hk a (by simp)).1
  · rw [List.any_eq_false]
    intro x hx
    have := (hk x (by simp [hx])).2
    simp [greatA]
    omega
end Pi
