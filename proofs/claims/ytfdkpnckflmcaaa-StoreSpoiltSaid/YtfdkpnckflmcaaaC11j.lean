/- Stores by numbers (layer 11): plain laws. -/
import Derived.Test.YtfdkpnckflmcaaaC11h
import Derived.Test.YtfdkpnckflmcaaaC08j
set_option linter.unusedSimpArgs false
set_option linter.unusedVariables false
namespace Pi
/-- A store with more clauses, where these have a model. -/
def addS (s : St) (l : List C) : St := if (solveC s.vars.toNat (s.cl ++ l)).2.1 = true then ⟨s.vars, s.cl ++ l, (solveC s.vars.toNat (s.cl ++ l)).1⟩ else s
def emptyS (vars : Nat) : St := ⟨vars, [], noughts vars⟩
def madeSt (n : Nat) (l : List Nat) : St := ((madeC n l).take 15).foldl (fun s c => addS s [c]) (emptyS (varsB n))
/-- A store that is right, of so many variables, and of so many clauses at most. -/
structure Gd (v k : Nat) (s : St) : Prop where
  vars : s.vars = v
  len : s.cl.length ≤ k
  right : rightS s = true
theorem Gd.cl {v k : Nat} {s : St} (h : Gd v k s) : rightC v s.cl = true := by
  have := h.right
  unfold rightS at this
  simp only [Bool.and_eq_true] at this
  rw [h.vars] at this
  exact this.1.1
theorem Gd.sol {v k : Nat} {s : St} (h : Gd v k s) : (solveC v s.cl).2.1 = true ∧ (solveC v s.cl).1 = s.md := by
  have := h.right
  unfold rightS at this
  simp only [Bool.and_eq_true, decide_eq_true_eq] at this
  rw [h.vars] at this
  exact ⟨this.1.2, this.2⟩
theorem Gd.few {v k : Nat} {s : St} (h : Gd v k s) : s.Few := by
  obtain ⟨r1, r2, r3, r4⟩ := right_ok h.cl
  have := solveC_len v s.cl h.cl
  rw [Int.toNat_natCast, h.sol.2] at this
  exact ⟨⟨by omega, fun c hc => Nat.le_trans (okC_six (r4 c hc)) (by omega)⟩, by omega, by omega, fun c hc => Nat.le_trans (okC_six (r4 c hc)) (by omega)⟩
theorem Gd.up {v k k' : Nat} {s : St} (h : Gd v k s) (hk : k ≤ k') : Gd v k' s := ⟨h.vars, by have := h.len; omega, h.right⟩
theorem solve_nil {v : Nat} (hv : 0 < v) : (solveC v []).2.1 = true ∧ (solveC v []).1 = noughts v := by
  rcases solve_spec (n := v) (l := []) hv (by simp) with ⟨h1, h2, _⟩ | ⟨_, _, h2⟩
  · exact ⟨h1, h2.unique (l := []) (l' := []) ⟨rfl, fun i => Int.le_refl _, (by simp [holdsC]), fun M _ h _ => h⟩ (fun _ => Iff.rfl)⟩
  · exact (h2 (noughts v) (noughts_len v) (fun i => by rw [noughts_at]; omega) (fun c hc => by cases hc)).elim
theorem Gd.empty {v : Nat} (h1 : 1 ≤ v) (h2 : v ≤ 16) : Gd v 0 (emptyS v) := by
  have h := solve_nil (v := v) (by omega)
  refine ⟨rfl, Nat.le_refl _, ?_⟩
  simp only [rightS, emptyS, Int.toNat_natCast, h.1, h.2, decide_true, Bool.and_true]
  simp [rightC]
  omega
theorem Gd.add {v k : Nat} {s : St} (h : Gd v k s) {l : List C} (hl : rightC v l = true) (hk : k + l.length ≤ 60) : Gd v (k + l.length) (addS s l) := by
  unfold addS
  rw [h.vars, Int.toNat_natCast]
  split
  · rename_i hs
    have hR := right_app h.cl hl (by have := h.len; omega)
    refine ⟨rfl, by have := h.len; simp only [List.length_append]; omega, ?_⟩
    simp [rightS, hR, hs]
  · exact h.up (by omega)
theorem Gd.addV {v k : Nat} {s : St} (h : Gd v k s) {l : List C} (hl : rightC v l = true) (hk : k + l.length ≤ 60) :
    addV s l = if (solveC v (s.cl ++ l)).2.1 = true then .tu [.ag (cS (addS s l)), sV cI [], .i .i64 0] else .tu [.ag (cS (addS s l)), sV cI (intL (coreL v (s.cl ++ l))), .i .i64 30] := by
  have hlen := h.len
  unfold Pi.addV addS
  rw [h.right, if_neg (by simp), if_neg (by omega), h.vars, hl, if_neg (by simp), Int.toNat_natCast]
  cases hs : (solveC v (s.cl ++ l)).2.1 <;> simp [h.vars]
theorem one_right {v : Nat} {c : C} (h1 : 1 ≤ v) (h2 : v ≤ 16) (hc : okC v c = true) : rightC v [c] = true := by
  simp [rightC, hc]
  omega
theorem madeSt_step (n : Nat) (l : List Nat) (i : Nat) (hi : i < ((madeC n l).take 15).length) :
    (((madeC n l).take 15).take (i + 1)).foldl (fun s c => addS s [c]) (emptyS (varsB n)) = addS ((((madeC n l).take 15).take i).foldl (fun s c => addS s [c]) (emptyS (varsB n))) [((madeC n l).take 15)[i]] := by
  rw [List.take_succ_eq_append_getElem hi, List.foldl_append]; rfl
theorem madeSt_gd (n : Nat) (l : List Nat) : ∀ i, i ≤ ((madeC n l).take 15).length → Gd (varsB n) i ((((madeC n l).take 15).take i).foldl (fun s c => addS s [c]) (emptyS (varsB n))) := by
  have hv := varsB_bd n
  intro i
  induction i with
  | zero => intro _; exact Gd.empty (by omega) (by omega)
  | succ i ih =>
    intro hi
    rw [madeSt_step n l i (by omega)]
    have hl : ((madeC n l).take 15).length ≤ 15 := by rw [List.length_take]; omega
    refine (ih (by omega)).add (l := [((madeC n l).take 15)[i]]) (one_right (by omega) (by omega) (made_ok n l _ (List.mem_of_mem_take (List.getElem_mem _)))) (by simp; omega)
theorem madeSt_Gd (n : Nat) (l : List Nat) : Gd (varsB n) 15 (madeSt n l) := by
  have := madeSt_gd n l _ (Nat.le_refl _)
  rw [List.take_length] at this
  exact this.up (by rw [List.length_take]; omega)
def atomsB (n : Nat) (l : List Nat) : List A := (l.take 4).map fun x => ⟨((x % varsB n : Nat) : Int), ((x / 8 % 4 : Nat) : Int)⟩
theorem atomsB_len (n : Nat) (l : List Nat) : (atomsB n l).length ≤ 4 := by unfold atomsB; simp; omega
end Pi
