/- For every input the law TcodePut answers true, and its input reads as before -/
import Derived.Test.YtbkkigmlkafeiaaRows
import Derived.Test.YtbkkigmlkafeiaaEnc
import Derived.Test.YtbkkigmlkafeiaaC14o
import Derived.WalkKit
import Derived.ProofKit
import Derived.OpenShut
import Derived.ShutString
import Derived.ChangeOld
import Derived.Below
import Derived.SizedLaws
namespace Go.Proofs.Ytbkkigmlkafeiaa.tcodePut
open Go.ChangeShapes Go.WideShapes Go.ChangeAt Go.RowKit
set_option linter.unusedVariables false
theorem lo : laidOutB Try.prog = true := by kernel_rfl
theorem own : ownKnob Try.prog.godebug = none := by kernel_rfl
theorem okt : Pi.okT Try.prog [29, 3, 26, 33, 27, 24, 5] = true := by kernel_rfl
set_option maxRecDepth 100000 in
theorem lifted (os : Os) (started : os.Started) (H : Type) (enc : TypeId × Value → H) :
    ReturnsInHanded {} Try.checked os 5 .any (Rows.tcodePutSpec.pre6 enc Try.prog Try.f5 Rows.tcodePutRow.domain false) (Rows.tcodePutSpec.post enc Try.prog Try.f5 false true false false) := by
  refine returnsInHanded_of_change_sized (C := Try.checked) own started (by kernel_rfl) Try.func5
    (ChangeSpec.witness6 (enc := enc) (C := Try.checked) false ⟨#[], #[.agg #[.int .i64 0, .int .i64 0, .slice none 0 0, .slice none 0 0], .slice none 0 0], []⟩ 8 (by kernel_rfl) (by kernel_rfl) (by kernel_rfl) (by kernel_rfl)) ?_
  intro W base args ds gs before hval0 hW hcnd hsz0 _
  have hval : ∀ (j : Nat) t v, Try.f5.params[j]? = some t → args[j]? = some v → Value.okWide Try.prog W .any base t v := hval0
  have hW' := hW
  obtain ⟨p, q, hA0, hV, rfl, hfz, hnd⟩ := hW
  have hA : DataW.TrodAll enc Try.prog W 0 (fun _ => true) true Try.f5.params.toList args.toList ds p := hA0
  rw [Try.params5] at hA hval
  obtain ⟨rfl, rfl⟩ := trodVars_none hV
  have hlen := (Pi.row_len hA).1
  have hdl := (Pi.row_len hA).2
  obtain ⟨d0, d1, rfl⟩ : ∃ d0 d1, ds = [d0, d1] := by
    match ds, hdl with
    | [d0, d1], _ => exact ⟨d0, d1, rfl⟩
  have hwt : ∀ x ∈ DataW.weightsEach Try.prog [29, 24] [d0, d1], x ≤ reachBytes := fun x hx => of_decide_eq_true (List.all_eq_true.1 hsz0 x (Pi.wt_mem (by simp) x (by rw [Try.params5]; exact hx)))
  obtain ⟨Vs, hPR, hVl, hT⟩ := Pi.row_args okt hA hwt (by simp) (fun j t v ht hv => hval j t v (by simpa using ht) (by simpa using hv))
  obtain ⟨x0, x1, rfl⟩ : ∃ x0 x1, Vs = [x0, x1] := by
    match Vs, hVl.trans hlen with
    | [x0, x1], _ => exact ⟨x0, x1, rfl⟩
  obtain ⟨⟨n0, h0⟩, ⟨n1, h1⟩, _⟩ := hT
  obtain ⟨a0, rfl, w0⟩ := Pi.a_term Try.underlying29 rfl Try.underlying3 Try.underlying26 Try.underlying27 Try.underlying33 rfl Try.underlying3 Try.underlying26 h0
  obtain ⟨a1, rfl, w1, v1⟩ := Pi.a_bytes Try.underlying24 Try.underlying5 h1
  have hans : Pi.Ans Pi.ctx 5 _ (.b true) := Pi.law14_TcodePut.a a0 w0 a1 w1 v1
  refine (Pi.law_of_ans Pi.lnk hans (w := W) (args := args) (ro := Pi.heapRo W) (fun b o h => h) hPR (by rw [hVl]; simp)).mono fun e W' ⟨he, bel⟩ => ?_
  subst he
  have hback := Pi.row_back lo bel hA (by intro t ht; simp only [List.mem_cons, List.not_mem_nil, or_false] at ht; rcases ht with rfl | rfl <;> exact ⟨by kernel_rfl, of_decide_eq_true (by kernel_rfl)⟩) (fun x hx => by simpa using hW'.lt x (by simpa using hx))
  exact ⟨_, rfl, _, _, _, [], _, [], hW', trodAll_mk1 (shut_bool Try.underlying4 _), hback, rfl, bel.frame _, fun h => by cases h⟩
theorem over : Rows.tcodePutRow.holds Try.pinned (OpenSpec.ofChange Rows.tcodePutSpec) :=
  OpenClaim.holds_of_wide 5 Try.f5 rfl rfl rfl rfl rfl rfl rfl ⟨rfl, rfl, rfl, rfl, rfl⟩ rfl rfl rfl rfl rfl (by kernel_rfl) Try.func5 (by kernel_rfl)
    (of_decide_eq_true (by kernel_rfl)) (by unfold Func.isWrapper; first | (rw [if_pos (by decide +kernel)]; kernel_rfl) | (rw [if_neg (by decide +kernel)]; exact ⟨rfl, rfl⟩))
    (fun os started H enc _ => lifted os started H enc)
theorem proved : Rows.TcodePutSaid := over
end Go.Proofs.Ytbkkigmlkafeiaa.tcodePut

