/- Clauses: what is right, what is asked, what is broken, in plain Lean. -/
import Derived.Test.YtfdkpnckflmcaaaEncC
set_option linter.unusedSimpArgs false
set_option linter.unusedVariables false
namespace Pi
def okA (vars : Int) (a : A) : Bool := decide (0 ≤ a.var) && decide (a.var < vars) && decide (0 ≤ a.off) && decide (a.off ≤ 1000)
def manyC (c : C) : Bool := decide ((c.frm.length : Int) < 1) || decide (6 < (c.frm.length : Int))
def okC (vars : Int) (c : C) : Bool := !manyC c && (c.frm ++ [c.to]).all (okA vars)
def rightC (vars : Int) (l : List C) : Bool := decide (1 ≤ vars) && decide (vars ≤ 16) && decide ((l.length : Int) ≤ 60) && l.all (okC vars)
/-- What an atom is, by a model. -/
def atS (model : List Int) (a : A) : Int := model.getD a.var.toNat 0 - a.off
def minS (model : List Int) (l : List A) : Int := (l.map (atS model)).foldl min (atS model (l.getD 0 default))
def asksS (model : List Int) (c : C) : Int := minS model c.frm + c.to.off
def brokenC (model : List Int) (c : C) : Bool := decide (model.getD c.to.var.toNat 0 < asksS model c)
/-- The places where p holds. -/
def placesS {α : Type} (p : α → Bool) (l : List α) : List Int := (l.zipIdx.filter fun x => p x.1).map fun x => (x.2 : Int)
theorem placesS_nil {α : Type} (p : α → Bool) : placesS p [] = [] := rfl
theorem placesS_snoc {α : Type} (p : α → Bool) (l : List α) (a : α) : placesS p (l ++ [a]) = placesS p l ++ if p a then [(l.length : Int)] else [] := by
  unfold placesS
  rw [List.zipIdx_append, List.filter_append, List.map_append]
  by_cases h : p a <;> simp [h]
theorem placesS_take {α : Type} (p : α → Bool) (l : List α) (i : Nat) (h : i < l.length) : placesS p (l.take (i + 1)) = placesS p (l.take i) ++ if p l[i] then [(i : Int)] else [] := by
  rw [List.take_succ_eq_append_getElem h, placesS_snoc]
  simp [Nat.min_eq_left (Nat.le_of_lt h)]
/-- By how much a clause asks for more, at most. -/
def mostS (l : List C) : Int := l.foldl (fun n c => c.frm.foldl (fun n a => max n (c.to.off - a.off)) n) 0
theorem mostS_nonneg (l : List C) : 0 ≤ mostS l := by
  unfold mostS
  refine fold_inv (P := fun n : Int => 0 ≤ n) ?_ (by omega)
  intro b c _ hb
  refine fold_inv (P := fun n : Int => 0 ≤ n) ?_ hb
  intro b a _ hb
  omega
/-- Is a variable named? -/
def namedC (l : List C) (v : Nat) : Bool := l.any fun c => (c.frm ++ [c.to]).any fun a => decide (a.var = (v : Int))
def namesS (vars : Nat) (l : List C) : List Int := placesS (namedC l) (List.range vars)
end Pi
