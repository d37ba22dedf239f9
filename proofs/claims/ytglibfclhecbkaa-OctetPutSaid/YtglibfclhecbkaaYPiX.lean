/- From an answer to the machine's call. -/
import Derived.Test.YtglibfclhecbkaaYPiT
import Derived.Test.YtglibfclhecbkaaYPiW
set_option linter.unusedVariables false
namespace Pi
open Go (Value World Program)

theorem frz_true {m : Sto} {v : V} {r : List Nat} {b : Bool} (h : freeze m v = some (.b b, r)) : v = .b b := by
  unfold freeze at h
  cases v <;> simp [frzW, Option.bind_eq_some_iff] at h
  case b x => rw [h.1]
  case fn f a c => split at h <;> simp [Option.bind_eq_some_iff] at h

theorem law_of_ans {P : Program} {C : Ctx} (lk : Lnk P C) {g : Nat} {vs : List V} (h : Ans C g vs (.b true)) {w : World} {args : Array Value} {ro : Ro}
    (hro : ∀ b o, ro b = some o → w.heap[b]? = some o) (ha : PR ro vs noRho args.toList) (hl : vs.length = args.size) :
    Go.Calls P g args w (fun e w' => e = .returned (.bool true) ∧ Go.RowKit.Below w.heap.size w w') := by
  obtain ⟨v, m', x', rv', ids, ⟨n, h1⟩, h2⟩ := h
  have := frz_true h2
  subst this
  exact law_of_enter lk (h1 n (Nat.le_refl _)) hro ha hl
end Pi
