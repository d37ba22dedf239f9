/- Atoms, clauses: how they fill cells. -/
import Derived.Test.YtfdkpnckflmcaaaEnc
set_option linter.unusedSimpArgs false
set_option linter.unusedVariables false
namespace Pi
structure A where
  var : Int
  off : Int
  deriving Inhabited, DecidableEq
def cA (a : A) : List V := [.i .i64 a.var, .i .i64 a.off]
@[simp] theorem cA_len (a : A) : (cA a).length = 2 := rfl
@[simp] theorem cA_fz (a : A) (D : Nat → Option (Bool × List V × List V × List Nat)) : frzL D (cA a) = some (cA a, []) := by simp [cA]
instance : Cel cA 2 := ⟨cA_len, by decide, cA_fz⟩
@[simp] theorem cA_0 (a : A) : (cA a)[0]? = some (.i .i64 a.var) := rfl
@[simp] theorem cA_1 (a : A) : (cA a)[1]? = some (.i .i64 a.off) := rfl
@[simp] theorem cA_take (a : A) : (cA a).take 2 = cA a := rfl
@[simp] theorem cA_drop (a : A) : (cA a).drop 2 = [] := rfl
structure C where
  frm : List A
  to : A
  deriving Inhabited, DecidableEq
def cC (c : C) : List V := [sV cA c.frm, .i .i64 c.to.var, .i .i64 c.to.off]
@[simp] theorem cC_len (c : C) : (cC c).length = 3 := rfl
@[simp] theorem cC_fz (c : C) (D : Nat → Option (Bool × List V × List V × List Nat)) : frzL D (cC c) = some (cC c, []) := by simp [cC]
instance : Cel cC 3 := ⟨cC_len, by decide, cC_fz⟩
@[simp] theorem cC_0 (c : C) : (cC c)[0]? = some (sV cA c.frm) := rfl
@[simp] theorem cC_1 (c : C) : (cC c)[1]? = some (.i .i64 c.to.var) := rfl
@[simp] theorem cC_2 (c : C) : (cC c)[2]? = some (.i .i64 c.to.off) := rfl
@[simp] theorem cC_take (c : C) : (cC c).take 3 = cC c := rfl
@[simp] theorem cC_drop (c : C) : (cC c).drop 3 = [] := rfl
@[simp] theorem cC_tail (c : C) : (cC c).tail = cA c.to := rfl
@[simp] theorem cA_drop0 (a : A) : (cA a).tail = [.i .i64 a.off] := rfl
theorem cA_mk (v o : Int) : [V.i .i64 v, .i .i64 o] = cA ⟨v, o⟩ := rfl
/-- Numbers as they come. -/
def A.Ok (a : A) : Prop := (-9223372036854775808 ≤ a.var ∧ a.var < 9223372036854775808) ∧ (-9223372036854775808 ≤ a.off ∧ a.off < 9223372036854775808)
def C.Ok (c : C) : Prop := c.frm.length ≤ 140737488351232 ∧ (∀ a ∈ c.frm, a.Ok) ∧ c.to.Ok
end Pi
