/- Contracts: arenas (layer 4): the document's Get, Same, put. -/
import Derived.Test.YtdeichdplcafcaaC04f
set_option linter.unusedSimpArgs false
set_option linter.unusedVariables false
namespace Pi
/-! What is put, as the document has it. -/
mutual
def putN (l : L) (ns : List N) : List N × Nat := match l with
  | .mk k n ks => match posN ⟨k, n, ((putKs ks ns).2.getD 0 0 : Nat), ((putKs ks ns).2.getD 1 0 : Nat)⟩ (putKs ks ns).1 0 with
    | some j => ((putKs ks ns).1, j)
    | none => ((putKs ks ns).1 ++ [⟨k, n, ((putKs ks ns).2.getD 0 0 : Nat), ((putKs ks ns).2.getD 1 0 : Nat)⟩], (putKs ks ns).1.length)
def putKs (ks : List L) (ns : List N) : List N × List Nat := match ks with
  | [] => (ns, [])
  | k :: r => ((putKs r (putN k ns).1).1, (putN k ns).2 :: (putKs r (putN k ns).1).2)
end
def nodeOf (l : L) (r : List N × List Nat) : N := ⟨l.kind, l.n, (r.2.getD 0 0 : Nat), (r.2.getD 1 0 : Nat)⟩
theorem putN_eq (l : L) (ns : List N) : putN l ns = match posN (nodeOf l (putKs l.kids ns)) (putKs l.kids ns).1 0 with
    | some j => ((putKs l.kids ns).1, j)
    | none => ((putKs l.kids ns).1 ++ [nodeOf l (putKs l.kids ns)], (putKs l.kids ns).1.length) := by
  cases l
  rw [putN]
  rfl
theorem putKs_nil (ns : List N) : putKs [] ns = (ns, []) := by rw [putKs]
theorem putKs_cons (k : L) (r : List L) (ns : List N) : putKs (k :: r) ns = ((putKs r (putN k ns).1).1, (putN k ns).2 :: (putKs r (putN k ns).1).2) := by rw [putKs]
/-! What things tell of. -/
end Pi

