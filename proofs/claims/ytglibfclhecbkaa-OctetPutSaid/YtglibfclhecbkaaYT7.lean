import Derived.Test.YtglibfclhecbkaaYA12Put3
set_option linter.unusedSimpArgs false
namespace Pi
open Pi.a12
set_option maxRecDepth 100000 in
theorem f14 : Ans ctx 14 [] (.b true) := ans_told (n := 300) (by kernel_rfl)
theorem putS_is (n : Int) : ∃ a e, putS n = .tu [.s a, .i .i64 e] := by
  unfold putS
  split
  · exact ⟨_, _, rfl⟩
  · exact ⟨_, _, rfl⟩
theorem call_int {g : Nat} {n : Int} {w : V} (h : Ans ctx g [.i .i64 n] w) (ho : ctx.opn g = false) {m : Sto} {x : Nat} {K : CR → Sto → Nat → Prop} : wpCall ctx (.fn (.func g) [] []) [.i .i64 n] m x K = K (.ret w) m x := by
  rw [wpCall_closed rfl ho (a := ([.i .i64 n], [])) rfl h]
  congr 1
  split <;> rfl
theorem call_nil {g : Nat} {w : V} (h : Ans ctx g [] w) (ho : ctx.opn g = false) {m : Sto} {x : Nat} {K : CR → Sto → Nat → Prop} : wpCall ctx (.fn (.func g) [] []) [] m x K = K (.ret w) m x := by
  rw [wpCall_closed rfl ho (a := ([], [])) rfl h]
  congr 1
  split <;> rfl
theorem f3 (n : Int) : Ans ctx 3 [.i .i64 n] (.b true) := by
  refine ans_fin rfl ?_
  obtain ⟨a, e, h⟩ := putS_is n
  simp [c3, wp, wpSegs, wpOps, wanted, opD, Opd.ev, S.put, Env.set, envOf, Sto.app]
  rw [call_int (f12 n) rfl, h]
  simp [o3_1, k3_9, wp, wpSegs, wpOps, wanted, opD, Opd.ev, S.put, Env.set, envOf, Sto.app]
  rw [call_int (f13 n) rfl, h]
  simp [o3_2, k3_8, wp, wpSegs, wpOps, wanted, opD, Opd.ev, S.put, Env.set, envOf, Sto.app]
  obtain ⟨j, hj⟩ : ∃ j, bin .and (.i .i64 n) (.i .i64 1099511627775) = some (.i .i64 j) := ⟨_, rfl⟩
  obtain ⟨b, e', h'⟩ := putS_is j
  simp [hj]
  rw [call_int (f12 j) rfl, h']
  simp [o3_3, k3_7, wp, wpSegs, wpOps, wanted, opD, Opd.ev, S.put, Env.set, envOf, Sto.app, hj]
  rw [call_int (f13 j) rfl, h']
  simp [o3_4, k3_6, wp, wpSegs, wpOps, wanted, opD, Opd.ev, S.put, Env.set, envOf, Sto.app, hj]
  rw [call_nil f14 rfl]
  simp [o3_5, wp, wpSegs, wpOps, wanted, opD, Opd.ev, S.put, Env.set, envOf, Sto.app, bin, binI, Done, DoneD, result, resL, resV, Frz, freeze, frzW]
end Pi
