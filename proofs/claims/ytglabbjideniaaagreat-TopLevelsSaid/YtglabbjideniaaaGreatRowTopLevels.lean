/- For every input the law TopLevels answers true, and its input reads as before -/
import Derived.Test.YtglabbjideniaaaGreatRows
import Derived.Test.YtglabbjideniaaaGreatEnc
import Derived.Test.YtglabbjideniaaaGreatC12l
import Derived.WalkKit
import Derived.ProofKit
import Derived.OpenShut
import Derived.ShutString
import Derived.ChangeOld
import Derived.Below
import Derived.SizedLaws
namespace Go.Proofs.YtglabbjideniaaaGreat.topLevels
open Go.ChangeShapes Go.WideShapes Go.ChangeAt Go.RowKit
set_option linter.unusedVariables false
theorem lo : laidOutB Tryz.prog = true := by kernel_rfl
theorem own : ownKnob Tryz.prog.godebug = none := by kernel_rfl
theorem okt : Pi.okT Tryz.prog [39, 5] = true := by kernel_rfl
set_option maxRecDepth 100000 in
theorem lifted (os : Os) (started : os.Started) (H : Type) (enc : TypeId × Value → H) :
    ReturnsInHanded {} Tryz.checked os 4 .any (Rows.topLevelsSpec.pre6 enc Tryz.prog Tryz.f4 Rows.topLevelsRow.domain false) (Rows.topLevelsSpec.post enc Tryz.prog Tryz.f4 false true false false) := by
  refine returnsInHanded_of_change_sized (C := Tryz.checked) own started (by kernel_rfl) Tryz.func4
    (ChangeSpec.witness6 (enc := enc) (C := Tryz.checked) false ⟨#[], #[.slice none 0 0], []⟩ 8 (by kernel_rfl) (by kernel_rfl) (by kernel_rfl) (by kernel_rfl)) ?_
  intro W base args ds gs before hval0 hW hcnd hsz0 _
  have hval : ∀ (j : Nat) t v, Tryz.f4.params[j]? = some t → args[j]? = some v → Value.okWide Tryz.prog W .any base t v := hval0
  have hW' := hW
  obtain ⟨p, q, hA0, hV, rfl, hfz, hnd⟩ := hW
  have hA : DataW.TrodAll enc Tryz.prog W 0 (fun _ => true) true Tryz.f4.params.toList args.toList ds p := hA0
  rw [Tryz.params4] at hA hval
  obtain ⟨rfl, rfl⟩ := trodVars_none hV
  have hlen := (Pi.row_len hA).1
  have hdl := (Pi.row_len hA).2
  obtain ⟨d0, rfl⟩ : ∃ d0, ds = [d0] := by
    match ds, hdl with
    | [d0], _ => exact ⟨d0, rfl⟩
  have hwt : ∀ x ∈ DataW.weightsEach Tryz.prog [39] [d0], x ≤ reachBytes := fun x hx => of_decide_eq_true (List.all_eq_true.1 hsz0 x (Pi.wt_mem (by simp) x (by rw [Tryz.params4]; exact hx)))
  obtain ⟨Vs, hPR, hVl, hT⟩ := Pi.row_args okt hA hwt (by simp) (fun j t v ht hv => hval j t v (by simpa using ht) (by simpa using hv))
  obtain ⟨x0, rfl⟩ : ∃ x0, Vs = [x0] := by
    match Vs, hVl.trans hlen with
    | [x0], _ => exact ⟨x0, rfl⟩
  obtain ⟨⟨n0, h0⟩, _⟩ := hT
  obtain ⟨a0, rfl, w0, v0⟩ := Pi.a_bytes Tryz.underlying39 Tryz.underlying5 h0
  have hans : Pi.Ans Pi.ctx 4 _ (.b true) := Pi.top_TopLevels.a a0 v0 w0
  refine (Pi.law_of_ans Pi.lnk hans (w := W) (args := args) (ro := Pi.heapRo W) (fun b o h => h) hPR (by rw [hVl]; simp)).mono fun e W' ⟨he, bel⟩ => ?_
  subst he
  have hback := Pi.row_back lo bel hA (by intro t ht; simp only [List.mem_cons, List.not_mem_nil, or_false] at ht; rcases ht with rfl <;> exact ⟨by kernel_rfl, of_decide_eq_true (by kernel_rfl)⟩) (fun x hx => by simpa using hW'.lt x (by simpa using hx))
  exact ⟨_, rfl, _, _, _, [], _, [], hW', trodAll_mk1 (shut_bool Tryz.underlying4 _), hback, rfl, bel.frame _, fun h => by cases h⟩
theorem joined_of {P : Program} {f : FuncId} {fn : Func} {s : ChangeSpec} {c : OpenClaim} (j1 : (c.wf (OpenSpec.ofChange s)) = true) (j2 : (laidOutB P) = true) (j3 : (mapsRowed P) = true) (j4 : (fn.params.all (P.readableRec ·)) = true) (j5 : (namedTie P c.named s.vars) = true) (j6 : ((c.stops == [])) = true) (j7 : ((P.stops == [])) = true) (j8 : ((c.knobs == [])) = true) (j9 : ((P.stopKnobs == [])) = true) (j10 : ((c.inPlace == P.inPlace f)) = true) (j11 : ((c.unfollowed == P.unfollowed f)) = true) (j12 : ((c.recurses == P.recurses f)) = true) (j13 : ((c.named == P.varsNamed f)) = true) (j14 : ((c.maps == (fn.params.toList ++ s.plain.varTypes P).any (P.mapsRec ·))) = true) (j15 : ((c.ifaces == (fn.params.toList ++ s.plain.varTypes P).any (P.ifacesRec ·))) = true) (j16 : ((c.mapsOut == P.mapsAmong fn.resultTypes.toList)) = true) (j17 : ((c.loops == (fn.params.toList ++ s.plain.varTypes P).any (P.loopsFrom ·))) = true) (j18 : ((c.wideKeys == (fn.params.toList ++ s.plain.varTypes P ++ fn.resultTypes.toList).any (P.wideKeysFrom ·))) = true) (j19 : (s.vars.all (P.varReadable ·)) = true) (j20 : (fn.resultTypes.all (fun t => P.readableRec t && decide (t < P.types.size))) = true) (j21 : ((c.ifacesOut == fn.resultTypes.toList.any (P.ifacesRec ·))) = true) (j22 : ((c.loopsOut == fn.resultTypes.toList.any (P.loopsFrom ·))) = true) (j23 : ((c.plainKeys == P.plainKeys)) = true) (j24 : (c.shortTexts.isNone) = true) (j25 : (P.stopsHeard) = true) (j26 : (P.mayEnter) = true) (j27 : ((c.lifted == P.liftsFinal)) = true) (j28 : ((P.make == some c.make)) = true) (j29 : ((c.kinds == (if c.domain.isEmpty then [] else fn.params.toList.map fun t => match P.underlying t with | some (.int k) => some k | _ => none))) = true) (j30 : ((c.pinned == c.pinnedBy)) = true) (j31 : ((c.veiled == (fn.params.toList ++ s.plain.varTypes P ++ fn.resultTypes.toList).any (P.veiledRec ·))) = true) (j32 : (c.veiledFits P fn.params.toList (fn.params.toList ++ s.plain.varTypes P ++ fn.resultTypes.toList)) = true) : joinedFacts P f fn s c = true := by
  simp only [joinedFacts, Bool.and_eq_true]
  exact ⟨⟨⟨⟨⟨⟨⟨⟨⟨⟨⟨⟨⟨⟨⟨⟨⟨⟨⟨⟨⟨⟨⟨⟨⟨⟨⟨⟨⟨⟨⟨j1, j2⟩, j3⟩, j4⟩, j5⟩, j6⟩, j7⟩, j8⟩, j9⟩, j10⟩, j11⟩, j12⟩, j13⟩, j14⟩, j15⟩, j16⟩, j17⟩, j18⟩, j19⟩, j20⟩, j21⟩, j22⟩, j23⟩, j24⟩, j25⟩, j26⟩, j27⟩, j28⟩, j29⟩, j30⟩, j31⟩, j32⟩
theorem j1 : (fun (P : Program) (f : FuncId) (fn : Func) (s : ChangeSpec) (c : OpenClaim) => c.wf (OpenSpec.ofChange s)) Tryz.prog 4 Tryz.f4 Rows.topLevelsSpec Rows.topLevelsRow = true := by kernel_rfl
theorem j2 : (fun (P : Program) (f : FuncId) (fn : Func) (s : ChangeSpec) (c : OpenClaim) => laidOutB P) Tryz.prog 4 Tryz.f4 Rows.topLevelsSpec Rows.topLevelsRow = true := by kernel_rfl
theorem j3 : (fun (P : Program) (f : FuncId) (fn : Func) (s : ChangeSpec) (c : OpenClaim) => mapsRowed P) Tryz.prog 4 Tryz.f4 Rows.topLevelsSpec Rows.topLevelsRow = true := by kernel_rfl
theorem j4 : (fun (P : Program) (f : FuncId) (fn : Func) (s : ChangeSpec) (c : OpenClaim) => fn.params.all (P.readableRec ·)) Tryz.prog 4 Tryz.f4 Rows.topLevelsSpec Rows.topLevelsRow = true := by kernel_rfl
theorem j5 : (fun (P : Program) (f : FuncId) (fn : Func) (s : ChangeSpec) (c : OpenClaim) => namedTie P c.named s.vars) Tryz.prog 4 Tryz.f4 Rows.topLevelsSpec Rows.topLevelsRow = true := by kernel_rfl
theorem j6 : (fun (P : Program) (f : FuncId) (fn : Func) (s : ChangeSpec) (c : OpenClaim) => (c.stops == [])) Tryz.prog 4 Tryz.f4 Rows.topLevelsSpec Rows.topLevelsRow = true := by kernel_rfl
theorem j7 : (fun (P : Program) (f : FuncId) (fn : Func) (s : ChangeSpec) (c : OpenClaim) => (P.stops == [])) Tryz.prog 4 Tryz.f4 Rows.topLevelsSpec Rows.topLevelsRow = true := by kernel_rfl
theorem j8 : (fun (P : Program) (f : FuncId) (fn : Func) (s : ChangeSpec) (c : OpenClaim) => (c.knobs == [])) Tryz.prog 4 Tryz.f4 Rows.topLevelsSpec Rows.topLevelsRow = true := by kernel_rfl
theorem j9 : (fun (P : Program) (f : FuncId) (fn : Func) (s : ChangeSpec) (c : OpenClaim) => (P.stopKnobs == [])) Tryz.prog 4 Tryz.f4 Rows.topLevelsSpec Rows.topLevelsRow = true := by kernel_rfl
theorem j10 : (fun (P : Program) (f : FuncId) (fn : Func) (s : ChangeSpec) (c : OpenClaim) => (c.inPlace == P.inPlace f)) Tryz.prog 4 Tryz.f4 Rows.topLevelsSpec Rows.topLevelsRow = true := by kernel_rfl
theorem j11 : (fun (P : Program) (f : FuncId) (fn : Func) (s : ChangeSpec) (c : OpenClaim) => (c.unfollowed == P.unfollowed f)) Tryz.prog 4 Tryz.f4 Rows.topLevelsSpec Rows.topLevelsRow = true := by kernel_rfl
theorem j12 : (fun (P : Program) (f : FuncId) (fn : Func) (s : ChangeSpec) (c : OpenClaim) => (c.recurses == P.recurses f)) Tryz.prog 4 Tryz.f4 Rows.topLevelsSpec Rows.topLevelsRow = true := by kernel_rfl
theorem j13 : (fun (P : Program) (f : FuncId) (fn : Func) (s : ChangeSpec) (c : OpenClaim) => (c.named == P.varsNamed f)) Tryz.prog 4 Tryz.f4 Rows.topLevelsSpec Rows.topLevelsRow = true := by kernel_rfl
theorem j14 : (fun (P : Program) (f : FuncId) (fn : Func) (s : ChangeSpec) (c : OpenClaim) => (c.maps == (fn.params.toList ++ s.plain.varTypes P).any (P.mapsRec ·))) Tryz.prog 4 Tryz.f4 Rows.topLevelsSpec Rows.topLevelsRow = true := by kernel_rfl
theorem j15 : (fun (P : Program) (f : FuncId) (fn : Func) (s : ChangeSpec) (c : OpenClaim) => (c.ifaces == (fn.params.toList ++ s.plain.varTypes P).any (P.ifacesRec ·))) Tryz.prog 4 Tryz.f4 Rows.topLevelsSpec Rows.topLevelsRow = true := by kernel_rfl
theorem j16 : (fun (P : Program) (f : FuncId) (fn : Func) (s : ChangeSpec) (c : OpenClaim) => (c.mapsOut == P.mapsAmong fn.resultTypes.toList)) Tryz.prog 4 Tryz.f4 Rows.topLevelsSpec Rows.topLevelsRow = true := by kernel_rfl
theorem j17 : (fun (P : Program) (f : FuncId) (fn : Func) (s : ChangeSpec) (c : OpenClaim) => (c.loops == (fn.params.toList ++ s.plain.varTypes P).any (P.loopsFrom ·))) Tryz.prog 4 Tryz.f4 Rows.topLevelsSpec Rows.topLevelsRow = true := by kernel_rfl
theorem j18 : (fun (P : Program) (f : FuncId) (fn : Func) (s : ChangeSpec) (c : OpenClaim) => (c.wideKeys == (fn.params.toList ++ s.plain.varTypes P ++ fn.resultTypes.toList).any (P.wideKeysFrom ·))) Tryz.prog 4 Tryz.f4 Rows.topLevelsSpec Rows.topLevelsRow = true := by kernel_rfl
theorem j19 : (fun (P : Program) (f : FuncId) (fn : Func) (s : ChangeSpec) (c : OpenClaim) => s.vars.all (P.varReadable ·)) Tryz.prog 4 Tryz.f4 Rows.topLevelsSpec Rows.topLevelsRow = true := by kernel_rfl
theorem j20 : (fun (P : Program) (f : FuncId) (fn : Func) (s : ChangeSpec) (c : OpenClaim) => fn.resultTypes.all (fun t => P.readableRec t && decide (t < P.types.size))) Tryz.prog 4 Tryz.f4 Rows.topLevelsSpec Rows.topLevelsRow = true := by kernel_rfl
theorem j21 : (fun (P : Program) (f : FuncId) (fn : Func) (s : ChangeSpec) (c : OpenClaim) => (c.ifacesOut == fn.resultTypes.toList.any (P.ifacesRec ·))) Tryz.prog 4 Tryz.f4 Rows.topLevelsSpec Rows.topLevelsRow = true := by kernel_rfl
theorem j22 : (fun (P : Program) (f : FuncId) (fn : Func) (s : ChangeSpec) (c : OpenClaim) => (c.loopsOut == fn.resultTypes.toList.any (P.loopsFrom ·))) Tryz.prog 4 Tryz.f4 Rows.topLevelsSpec Rows.topLevelsRow = true := by kernel_rfl
theorem j23 : (fun (P : Program) (f : FuncId) (fn : Func) (s : ChangeSpec) (c : OpenClaim) => (c.plainKeys == P.plainKeys)) Tryz.prog 4 Tryz.f4 Rows.topLevelsSpec Rows.topLevelsRow = true := by kernel_rfl
theorem j24 : (fun (P : Program) (f : FuncId) (fn : Func) (s : ChangeSpec) (c : OpenClaim) => c.shortTexts.isNone) Tryz.prog 4 Tryz.f4 Rows.topLevelsSpec Rows.topLevelsRow = true := by kernel_rfl
theorem j25 : (fun (P : Program) (f : FuncId) (fn : Func) (s : ChangeSpec) (c : OpenClaim) => P.stopsHeard) Tryz.prog 4 Tryz.f4 Rows.topLevelsSpec Rows.topLevelsRow = true := by kernel_rfl
theorem j26 : (fun (P : Program) (f : FuncId) (fn : Func) (s : ChangeSpec) (c : OpenClaim) => P.mayEnter) Tryz.prog 4 Tryz.f4 Rows.topLevelsSpec Rows.topLevelsRow = true := by kernel_rfl
theorem j27 : (fun (P : Program) (f : FuncId) (fn : Func) (s : ChangeSpec) (c : OpenClaim) => (c.lifted == P.liftsFinal)) Tryz.prog 4 Tryz.f4 Rows.topLevelsSpec Rows.topLevelsRow = true := by kernel_rfl
theorem j28 : (fun (P : Program) (f : FuncId) (fn : Func) (s : ChangeSpec) (c : OpenClaim) => (P.make == some c.make)) Tryz.prog 4 Tryz.f4 Rows.topLevelsSpec Rows.topLevelsRow = true := by kernel_rfl
theorem j29 : (fun (P : Program) (f : FuncId) (fn : Func) (s : ChangeSpec) (c : OpenClaim) => (c.kinds == (if c.domain.isEmpty then [] else fn.params.toList.map fun t => match P.underlying t with | some (.int k) => some k | _ => none))) Tryz.prog 4 Tryz.f4 Rows.topLevelsSpec Rows.topLevelsRow = true := by kernel_rfl
theorem j30 : (fun (P : Program) (f : FuncId) (fn : Func) (s : ChangeSpec) (c : OpenClaim) => (c.pinned == c.pinnedBy)) Tryz.prog 4 Tryz.f4 Rows.topLevelsSpec Rows.topLevelsRow = true := by kernel_rfl
theorem j31 : (fun (P : Program) (f : FuncId) (fn : Func) (s : ChangeSpec) (c : OpenClaim) => (c.veiled == (fn.params.toList ++ s.plain.varTypes P ++ fn.resultTypes.toList).any (P.veiledRec ·))) Tryz.prog 4 Tryz.f4 Rows.topLevelsSpec Rows.topLevelsRow = true := by kernel_rfl
theorem j32 : (fun (P : Program) (f : FuncId) (fn : Func) (s : ChangeSpec) (c : OpenClaim) => c.veiledFits P fn.params.toList (fn.params.toList ++ s.plain.varTypes P ++ fn.resultTypes.toList)) Tryz.prog 4 Tryz.f4 Rows.topLevelsSpec Rows.topLevelsRow = true := by kernel_rfl
theorem closed : joinedFacts Tryz.prog 4 Tryz.f4 Rows.topLevelsSpec Rows.topLevelsRow = true := joined_of j1 j2 j3 j4 j5 j6 j7 j8 j9 j10 j11 j12 j13 j14 j15 j16 j17 j18 j19 j20 j21 j22 j23 j24 j25 j26 j27 j28 j29 j30 j31 j32
theorem named : Tryz.prog.funcNamed Rows.topLevelsRow.func = some 4 := by kernel_rfl
theorem wrap : Tryz.f4.isWrapper Tryz.prog Rows.topLevelsRow.wrapper Rows.topLevelsRow.mainSum := by
  unfold Func.isWrapper; first | (rw [if_pos (by decide +kernel)]; kernel_rfl) | (rw [if_neg (by decide +kernel)]; exact ⟨rfl, rfl⟩)
theorem inst : Tryz.f4.isInstance Tryz.prog Rows.topLevelsRow.origin Rows.topLevelsRow.targs := of_decide_eq_true (by kernel_rfl)
theorem over : Rows.topLevelsRow.holds Tryz.pinned (OpenSpec.ofChange Rows.topLevelsSpec) :=
  OpenClaim.holds_of_wide 4 Tryz.f4 rfl rfl rfl rfl rfl rfl rfl ⟨rfl, rfl, rfl, rfl, rfl⟩ rfl rfl rfl rfl rfl named Tryz.func4 closed inst wrap
    (fun os started H enc _ => lifted os started H enc)
theorem proved : Rows.TopLevelsSaid := over
end Go.Proofs.YtglabbjideniaaaGreat.topLevels

