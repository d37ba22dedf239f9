/- Stores: how they fill cells. -/
import Derived.Test.YtfdkpnckflmcaaaEncC
set_option linter.unusedSimpArgs false
set_option linter.unusedVariables false
namespace Pi
structure St where
  vars : Int
  cl : List C
  md : List Int
  deriving Inhabited, DecidableEq
def cS (s : St) : List V := [.i .i64 s.vars, sV cC s.cl, sV cI s.md]
@[simp] theorem cS_len (s : St) : (cS s).length = 3 := rfl
@[simp] theorem cS_fz (s : St) (D : Nat → Option (Bool × List V × List V × List Nat)) : frzL D (cS s) = some (cS s, []) := by simp [cS]
@[simp] theorem cS_0 (s : St) : (cS s)[0]? = some (.i .i64 s.vars) := rfl
@[simp] theorem cS_1 (s : St) : (cS s)[1]? = some (sV cC s.cl) := rfl
@[simp] theorem cS_2 (s : St) : (cS s)[2]? = some (sV cI s.md) := rfl
@[simp] theorem cS_take (s : St) : (cS s).take 3 = cS s := rfl
def St.Ok (s : St) : Prop := (-9223372036854775808 ≤ s.vars ∧ s.vars < 9223372036854775808) ∧ s.cl.length ≤ 9223372036854775807 ∧ (∀ c ∈ s.cl, c.Ok) ∧ s.md.length ≤ 9223372036854775807 ∧ ∀ a ∈ s.md, -9223372036854775808 ≤ a ∧ a < 9223372036854775808
theorem St.Ok.frm {s : St} (h : s.Ok) : ∀ c ∈ s.cl, c.frm.length ≤ 9223372036854775807 := fun c hc => Nat.le_trans (h.2.2.1 c hc).1 (by decide)
end Pi
