/-
  NARROWER THAN 'FOR EVERY INPUT', by the rows' own cells (each row's printed sentence says how): TcodePut: loops · UnderAny: loops.
  DERIVED. THE GIVEN ROWS OF THIS SEAT. 11 by the template 'for every input the law returns true; each argument reads behind the call as it read before'; 0 by the template 'total and deterministic' (their statements: YtbkkigmlkafeiaaTotals.lean).
  GIVEN WITH THE SEED: the statements are not yours to turn. If you find one false, say at which input.
  Laid BY PROGRAM, IN A SANDBOX (cutbox-rows.mjs): the forced cells as the released guide's own fill.sh prints them over the translation c3f60b311db50cda… (all of the seat's roots in one cut). By AI agents, Wed Nov 11 2026. No macro, syntax, notation, axiom, sorry.
-/
import Derived.Test.YtbkkigmlkafeiaaChecked
import GoSem.Claim
import GoSem.ClaimJoined
import GoSem.ClaimMapViews
import Derived.JoinedTies
import Derived.KernelRfl
namespace Go.Proofs.Ytbkkigmlkafeiaa
/- THE CELL 'sum', in the pinned program and in every row, IS THE sha256 OF THE DUMP (.gsa) THAT YtbkkigmlkafeiaaProg.lean LOADS. Nothing in Lean hashes anything: it is a label: what it is worth is what the hold of that sum in a sandbox is worth. -/
noncomputable def Try.pinned : Pinned := { name := "ytbkkigmlkafeiaa", sum := "c3f60b311db50cda7ddbc46cc35cebaf8c3470f0c2a906e10d5ab7e28da094cd", checked := Try.checked }
namespace Rows
def none {H : Type} : Left H := { results := [], args := [] }

/-- 'stereobatelaw14.TcodeGet': WHATEVER THE INPUT: true; the input reads as it did. -/
def tcodeGetSpec : ChangeSpec := { name := "tcodeGet", fn := fun _ => fun
  | [d1, d2] => { results := [.lit (.bool true)], args := [d1, d2] }
  | _ => none }
def tcodeGetRow : OpenClaim := { program := "ytbkkigmlkafeiaa", sum := "c3f60b311db50cda7ddbc46cc35cebaf8c3470f0c2a906e10d5ab7e28da094cd", func := "stereobate/stereobatelaw14.TcodeGet", spec := "tcodeGet", inPlace := ["internal/abi.NoEscape"], unfollowed := true, recurses := true, apart := false }
def TcodeGetSaid : Prop := tcodeGetRow.holds Try.pinned (OpenSpec.ofChange tcodeGetSpec)

/-- ITS FALSE NEIGHBOUR: 'it returns false'. Refute it at one input. -/
def tcodeGetWrong : ChangeSpec := { name := "tcodeGet", fn := fun _ => fun
  | [d1, d2] => { results := [.lit (.bool false)], args := [d1, d2] }
  | _ => none }
def TcodeGetWrongFalsely : Prop := tcodeGetRow.holds Try.pinned (OpenSpec.ofChange tcodeGetWrong)

/-- 'stereobatelaw14.TcodeSmall': WHATEVER THE INPUT: true; the input reads as it did. -/
def tcodeSmallSpec : ChangeSpec := { name := "tcodeSmall", fn := fun _ => fun
  | [d] => { results := [.lit (.bool true)], args := [d] }
  | _ => none }
def tcodeSmallRow : OpenClaim := { program := "ytbkkigmlkafeiaa", sum := "c3f60b311db50cda7ddbc46cc35cebaf8c3470f0c2a906e10d5ab7e28da094cd", func := "stereobate/stereobatelaw14.TcodeSmall", spec := "tcodeSmall", inPlace := ["internal/abi.NoEscape"], unfollowed := true, recurses := true, apart := false }
def TcodeSmallSaid : Prop := tcodeSmallRow.holds Try.pinned (OpenSpec.ofChange tcodeSmallSpec)

/-- ITS FALSE NEIGHBOUR: 'it returns false'. Refute it at one input. -/
def tcodeSmallWrong : ChangeSpec := { name := "tcodeSmall", fn := fun _ => fun
  | [d] => { results := [.lit (.bool false)], args := [d] }
  | _ => none }
def TcodeSmallWrongFalsely : Prop := tcodeSmallRow.holds Try.pinned (OpenSpec.ofChange tcodeSmallWrong)

/-- 'stereobatelaw14.TcodePut': WHATEVER THE INPUT: true; the input reads as it did. -/
def tcodePutSpec : ChangeSpec := { name := "tcodePut", fn := fun _ => fun
  | [d1, d2] => { results := [.lit (.bool true)], args := [d1, d2] }
  | _ => none }
def tcodePutRow : OpenClaim := { program := "ytbkkigmlkafeiaa", sum := "c3f60b311db50cda7ddbc46cc35cebaf8c3470f0c2a906e10d5ab7e28da094cd", func := "stereobate/stereobatelaw14.TcodePut", spec := "tcodePut", inPlace := ["internal/abi.NoEscape"], unfollowed := true, recurses := true, loops := true, apart := false }
def TcodePutSaid : Prop := tcodePutRow.holds Try.pinned (OpenSpec.ofChange tcodePutSpec)

/-- ITS FALSE NEIGHBOUR: 'it returns false'. Refute it at one input. -/
def tcodePutWrong : ChangeSpec := { name := "tcodePut", fn := fun _ => fun
  | [d1, d2] => { results := [.lit (.bool false)], args := [d1, d2] }
  | _ => none }
def TcodePutWrongFalsely : Prop := tcodePutRow.holds Try.pinned (OpenSpec.ofChange tcodePutWrong)

/-- 'stereobatelaw14.TcodeDeep': WHATEVER THE INPUT: true; the input reads as it did. -/
def tcodeDeepSpec : ChangeSpec := { name := "tcodeDeep", fn := fun _ => fun
  | [d1, d2] => { results := [.lit (.bool true)], args := [d1, d2] }
  | _ => none }
def tcodeDeepRow : OpenClaim := { program := "ytbkkigmlkafeiaa", sum := "c3f60b311db50cda7ddbc46cc35cebaf8c3470f0c2a906e10d5ab7e28da094cd", func := "stereobate/stereobatelaw14.TcodeDeep", spec := "tcodeDeep", inPlace := ["internal/abi.NoEscape"], unfollowed := true, recurses := true, apart := false }
def TcodeDeepSaid : Prop := tcodeDeepRow.holds Try.pinned (OpenSpec.ofChange tcodeDeepSpec)

/-- ITS FALSE NEIGHBOUR: 'it returns false'. Refute it at one input. -/
def tcodeDeepWrong : ChangeSpec := { name := "tcodeDeep", fn := fun _ => fun
  | [d1, d2] => { results := [.lit (.bool false)], args := [d1, d2] }
  | _ => none }
def TcodeDeepWrongFalsely : Prop := tcodeDeepRow.holds Try.pinned (OpenSpec.ofChange tcodeDeepWrong)

/-- 'stereobatelaw14.TcodeBack': WHATEVER THE INPUT: true; the input reads as it did. -/
def tcodeBackSpec : ChangeSpec := { name := "tcodeBack", fn := fun _ => fun
  | [d1, d2, d3] => { results := [.lit (.bool true)], args := [d1, d2, d3] }
  | _ => none }
def tcodeBackRow : OpenClaim := { program := "ytbkkigmlkafeiaa", sum := "c3f60b311db50cda7ddbc46cc35cebaf8c3470f0c2a906e10d5ab7e28da094cd", func := "stereobate/stereobatelaw14.TcodeBack", spec := "tcodeBack", inPlace := ["internal/abi.NoEscape"], unfollowed := true, recurses := true, apart := false }
def TcodeBackSaid : Prop := tcodeBackRow.holds Try.pinned (OpenSpec.ofChange tcodeBackSpec)

/-- ITS FALSE NEIGHBOUR: 'it returns false'. Refute it at one input. -/
def tcodeBackWrong : ChangeSpec := { name := "tcodeBack", fn := fun _ => fun
  | [d1, d2, d3] => { results := [.lit (.bool false)], args := [d1, d2, d3] }
  | _ => none }
def TcodeBackWrongFalsely : Prop := tcodeBackRow.holds Try.pinned (OpenSpec.ofChange tcodeBackWrong)

/-- 'stereobatelaw14.TcodeOnce': WHATEVER THE INPUT: true; the input reads as it did. -/
def tcodeOnceSpec : ChangeSpec := { name := "tcodeOnce", fn := fun _ => fun
  | [d1, d2, d3] => { results := [.lit (.bool true)], args := [d1, d2, d3] }
  | _ => none }
def tcodeOnceRow : OpenClaim := { program := "ytbkkigmlkafeiaa", sum := "c3f60b311db50cda7ddbc46cc35cebaf8c3470f0c2a906e10d5ab7e28da094cd", func := "stereobate/stereobatelaw14.TcodeOnce", spec := "tcodeOnce", inPlace := ["internal/abi.NoEscape"], unfollowed := true, recurses := true, apart := false }
def TcodeOnceSaid : Prop := tcodeOnceRow.holds Try.pinned (OpenSpec.ofChange tcodeOnceSpec)

/-- ITS FALSE NEIGHBOUR: 'it returns false'. Refute it at one input. -/
def tcodeOnceWrong : ChangeSpec := { name := "tcodeOnce", fn := fun _ => fun
  | [d1, d2, d3] => { results := [.lit (.bool false)], args := [d1, d2, d3] }
  | _ => none }
def TcodeOnceWrongFalsely : Prop := tcodeOnceRow.holds Try.pinned (OpenSpec.ofChange tcodeOnceWrong)

/-- 'stereobatelaw12.UnderAny': WHATEVER THE INPUT: true; the input reads as it did. -/
def underAnySpec : ChangeSpec := { name := "underAny", fn := fun _ => fun
  | [d1, d2, d3, d4] => { results := [.lit (.bool true)], args := [d1, d2, d3, d4] }
  | _ => none }
def underAnyRow : OpenClaim := { program := "ytbkkigmlkafeiaa", sum := "c3f60b311db50cda7ddbc46cc35cebaf8c3470f0c2a906e10d5ab7e28da094cd", func := "stereobate/stereobatelaw12.UnderAny", spec := "underAny", unfollowed := true, recurses := true, loops := true, apart := false }
def UnderAnySaid : Prop := underAnyRow.holds Try.pinned (OpenSpec.ofChange underAnySpec)

/-- ITS FALSE NEIGHBOUR: 'it returns false'. Refute it at one input. -/
def underAnyWrong : ChangeSpec := { name := "underAny", fn := fun _ => fun
  | [d1, d2, d3, d4] => { results := [.lit (.bool false)], args := [d1, d2, d3, d4] }
  | _ => none }
def UnderAnyWrongFalsely : Prop := underAnyRow.holds Try.pinned (OpenSpec.ofChange underAnyWrong)

/-- 'stereobatelaw12.UnderMade': WHATEVER THE INPUT: true; the input reads as it did. -/
def underMadeSpec : ChangeSpec := { name := "underMade", fn := fun _ => fun
  | [d1, d2, d3, d4] => { results := [.lit (.bool true)], args := [d1, d2, d3, d4] }
  | _ => none }
def underMadeRow : OpenClaim := { program := "ytbkkigmlkafeiaa", sum := "c3f60b311db50cda7ddbc46cc35cebaf8c3470f0c2a906e10d5ab7e28da094cd", func := "stereobate/stereobatelaw12.UnderMade", spec := "underMade", unfollowed := true, recurses := true, apart := false }
def UnderMadeSaid : Prop := underMadeRow.holds Try.pinned (OpenSpec.ofChange underMadeSpec)

/-- ITS FALSE NEIGHBOUR: 'it returns false'. Refute it at one input. -/
def underMadeWrong : ChangeSpec := { name := "underMade", fn := fun _ => fun
  | [d1, d2, d3, d4] => { results := [.lit (.bool false)], args := [d1, d2, d3, d4] }
  | _ => none }
def UnderMadeWrongFalsely : Prop := underMadeRow.holds Try.pinned (OpenSpec.ofChange underMadeWrong)

/-- 'stereobatelaw12.UnderTrue': WHATEVER THE INPUT: true; the input reads as it did. -/
def underTrueSpec : ChangeSpec := { name := "underTrue", fn := fun _ => fun
  | [d] => { results := [.lit (.bool true)], args := [d] }
  | _ => none }
def underTrueRow : OpenClaim := { program := "ytbkkigmlkafeiaa", sum := "c3f60b311db50cda7ddbc46cc35cebaf8c3470f0c2a906e10d5ab7e28da094cd", func := "stereobate/stereobatelaw12.UnderTrue", spec := "underTrue", unfollowed := true, recurses := true, apart := false }
def UnderTrueSaid : Prop := underTrueRow.holds Try.pinned (OpenSpec.ofChange underTrueSpec)

/-- ITS FALSE NEIGHBOUR: 'it returns false'. Refute it at one input. -/
def underTrueWrong : ChangeSpec := { name := "underTrue", fn := fun _ => fun
  | [d] => { results := [.lit (.bool false)], args := [d] }
  | _ => none }
def UnderTrueWrongFalsely : Prop := underTrueRow.holds Try.pinned (OpenSpec.ofChange underTrueWrong)

/-- 'stereobatelaw12.UnderPossible': WHATEVER THE INPUT: true; the input reads as it did. -/
def underPossibleSpec : ChangeSpec := { name := "underPossible", fn := fun _ => fun
  | [d] => { results := [.lit (.bool true)], args := [d] }
  | _ => none }
def underPossibleRow : OpenClaim := { program := "ytbkkigmlkafeiaa", sum := "c3f60b311db50cda7ddbc46cc35cebaf8c3470f0c2a906e10d5ab7e28da094cd", func := "stereobate/stereobatelaw12.UnderPossible", spec := "underPossible", unfollowed := true, recurses := true, apart := false }
def UnderPossibleSaid : Prop := underPossibleRow.holds Try.pinned (OpenSpec.ofChange underPossibleSpec)

/-- ITS FALSE NEIGHBOUR: 'it returns false'. Refute it at one input. -/
def underPossibleWrong : ChangeSpec := { name := "underPossible", fn := fun _ => fun
  | [d] => { results := [.lit (.bool false)], args := [d] }
  | _ => none }
def UnderPossibleWrongFalsely : Prop := underPossibleRow.holds Try.pinned (OpenSpec.ofChange underPossibleWrong)

/-- 'stereobatelaw12.UnderMore': WHATEVER THE INPUT: true; the input reads as it did. -/
def underMoreSpec : ChangeSpec := { name := "underMore", fn := fun _ => fun
  | [d] => { results := [.lit (.bool true)], args := [d] }
  | _ => none }
def underMoreRow : OpenClaim := { program := "ytbkkigmlkafeiaa", sum := "c3f60b311db50cda7ddbc46cc35cebaf8c3470f0c2a906e10d5ab7e28da094cd", func := "stereobate/stereobatelaw12.UnderMore", spec := "underMore", unfollowed := true, recurses := true, apart := false }
def UnderMoreSaid : Prop := underMoreRow.holds Try.pinned (OpenSpec.ofChange underMoreSpec)

/-- ITS FALSE NEIGHBOUR: 'it returns false'. Refute it at one input. -/
def underMoreWrong : ChangeSpec := { name := "underMore", fn := fun _ => fun
  | [d] => { results := [.lit (.bool false)], args := [d] }
  | _ => none }
def UnderMoreWrongFalsely : Prop := underMoreRow.holds Try.pinned (OpenSpec.ofChange underMoreWrong)

/- THE SECOND FORM. 'bulk': how many values and letters a reading holds, each counted each time it is reached (what is shared counts as often as it is met; a slice's spare places count too). A statement '..UptoSaid' is the law's where the arguments, and the package variables that the reading takes, are together of bulk at most 1048576: NARROWER than '..Said'. Prove '..Said' where nothing that the law and all that it calls make is longer than what came in: it says more and counts as full. Else prove '..UptoSaid'. A law counts once. -/
mutual
def uptoBulk {H : Type} : DataW H → Nat
  | .lit (.string bytes) => bytes.length + 1
  | .lit _ => 1
  | .nil => 1
  | .ptr d => uptoBulk d + 1
  | .slice elems spare => uptoBulkAll elems + uptoBulkAll spare + 1
  | .agg parts => uptoBulkAll parts + 1
  | .iface _ d => uptoBulk d + 1
  | .map entries => uptoBulkEntries entries + 1
  | .held _ => 1
def uptoBulkAll {H : Type} : List (DataW H) → Nat
  | [] => 0
  | d :: r => uptoBulk d + uptoBulkAll r
def uptoBulkEntries {H : Type} : List (Lit × DataW H) → Nat
  | [] => 0
  | x :: r => uptoBulkEntry x + uptoBulkEntries r
def uptoBulkEntry {H : Type} : Lit × DataW H → Nat
  | (.string bytes, d) => bytes.length + uptoBulk d + 1
  | (_, d) => uptoBulk d + 1
 end
def uptoSmall : (H : Type) → List (DataW H) → Bool := fun _ ds => decide (uptoBulkAll ds ≤ 1048576)
def OpenSpec.upto (s : _root_.Go.ChangeSpec) : _root_.Go.OpenSpec := { _root_.Go.OpenSpec.ofChange s with cond := some uptoSmall }

/-- 'stereobatelaw14.TcodeGet', WHERE WHAT IT READS IS OF BULK AT MOST 1048576: true; the input reads as it did. -/
def tcodeGetUptoRow : OpenClaim := { program := "ytbkkigmlkafeiaa", sum := "c3f60b311db50cda7ddbc46cc35cebaf8c3470f0c2a906e10d5ab7e28da094cd", func := "stereobate/stereobatelaw14.TcodeGet", spec := "tcodeGet", inPlace := ["internal/abi.NoEscape"], unfollowed := true, recurses := true, apart := false, narrowed := true }
def TcodeGetUptoSaid : Prop := tcodeGetUptoRow.holds Try.pinned (OpenSpec.upto tcodeGetSpec)

/-- 'stereobatelaw14.TcodeSmall', WHERE WHAT IT READS IS OF BULK AT MOST 1048576: true; the input reads as it did. -/
def tcodeSmallUptoRow : OpenClaim := { program := "ytbkkigmlkafeiaa", sum := "c3f60b311db50cda7ddbc46cc35cebaf8c3470f0c2a906e10d5ab7e28da094cd", func := "stereobate/stereobatelaw14.TcodeSmall", spec := "tcodeSmall", inPlace := ["internal/abi.NoEscape"], unfollowed := true, recurses := true, apart := false, narrowed := true }
def TcodeSmallUptoSaid : Prop := tcodeSmallUptoRow.holds Try.pinned (OpenSpec.upto tcodeSmallSpec)

/-- 'stereobatelaw14.TcodePut', WHERE WHAT IT READS IS OF BULK AT MOST 1048576: true; the input reads as it did. -/
def tcodePutUptoRow : OpenClaim := { program := "ytbkkigmlkafeiaa", sum := "c3f60b311db50cda7ddbc46cc35cebaf8c3470f0c2a906e10d5ab7e28da094cd", func := "stereobate/stereobatelaw14.TcodePut", spec := "tcodePut", inPlace := ["internal/abi.NoEscape"], unfollowed := true, recurses := true, loops := true, apart := false, narrowed := true }
def TcodePutUptoSaid : Prop := tcodePutUptoRow.holds Try.pinned (OpenSpec.upto tcodePutSpec)

/-- 'stereobatelaw14.TcodeDeep', WHERE WHAT IT READS IS OF BULK AT MOST 1048576: true; the input reads as it did. -/
def tcodeDeepUptoRow : OpenClaim := { program := "ytbkkigmlkafeiaa", sum := "c3f60b311db50cda7ddbc46cc35cebaf8c3470f0c2a906e10d5ab7e28da094cd", func := "stereobate/stereobatelaw14.TcodeDeep", spec := "tcodeDeep", inPlace := ["internal/abi.NoEscape"], unfollowed := true, recurses := true, apart := false, narrowed := true }
def TcodeDeepUptoSaid : Prop := tcodeDeepUptoRow.holds Try.pinned (OpenSpec.upto tcodeDeepSpec)

/-- 'stereobatelaw14.TcodeBack', WHERE WHAT IT READS IS OF BULK AT MOST 1048576: true; the input reads as it did. -/
def tcodeBackUptoRow : OpenClaim := { program := "ytbkkigmlkafeiaa", sum := "c3f60b311db50cda7ddbc46cc35cebaf8c3470f0c2a906e10d5ab7e28da094cd", func := "stereobate/stereobatelaw14.TcodeBack", spec := "tcodeBack", inPlace := ["internal/abi.NoEscape"], unfollowed := true, recurses := true, apart := false, narrowed := true }
def TcodeBackUptoSaid : Prop := tcodeBackUptoRow.holds Try.pinned (OpenSpec.upto tcodeBackSpec)

/-- 'stereobatelaw14.TcodeOnce', WHERE WHAT IT READS IS OF BULK AT MOST 1048576: true; the input reads as it did. -/
def tcodeOnceUptoRow : OpenClaim := { program := "ytbkkigmlkafeiaa", sum := "c3f60b311db50cda7ddbc46cc35cebaf8c3470f0c2a906e10d5ab7e28da094cd", func := "stereobate/stereobatelaw14.TcodeOnce", spec := "tcodeOnce", inPlace := ["internal/abi.NoEscape"], unfollowed := true, recurses := true, apart := false, narrowed := true }
def TcodeOnceUptoSaid : Prop := tcodeOnceUptoRow.holds Try.pinned (OpenSpec.upto tcodeOnceSpec)

/-- 'stereobatelaw12.UnderAny', WHERE WHAT IT READS IS OF BULK AT MOST 1048576: true; the input reads as it did. -/
def underAnyUptoRow : OpenClaim := { program := "ytbkkigmlkafeiaa", sum := "c3f60b311db50cda7ddbc46cc35cebaf8c3470f0c2a906e10d5ab7e28da094cd", func := "stereobate/stereobatelaw12.UnderAny", spec := "underAny", unfollowed := true, recurses := true, loops := true, apart := false, narrowed := true }
def UnderAnyUptoSaid : Prop := underAnyUptoRow.holds Try.pinned (OpenSpec.upto underAnySpec)

/-- 'stereobatelaw12.UnderMade', WHERE WHAT IT READS IS OF BULK AT MOST 1048576: true; the input reads as it did. -/
def underMadeUptoRow : OpenClaim := { program := "ytbkkigmlkafeiaa", sum := "c3f60b311db50cda7ddbc46cc35cebaf8c3470f0c2a906e10d5ab7e28da094cd", func := "stereobate/stereobatelaw12.UnderMade", spec := "underMade", unfollowed := true, recurses := true, apart := false, narrowed := true }
def UnderMadeUptoSaid : Prop := underMadeUptoRow.holds Try.pinned (OpenSpec.upto underMadeSpec)

/-- 'stereobatelaw12.UnderTrue', WHERE WHAT IT READS IS OF BULK AT MOST 1048576: true; the input reads as it did. -/
def underTrueUptoRow : OpenClaim := { program := "ytbkkigmlkafeiaa", sum := "c3f60b311db50cda7ddbc46cc35cebaf8c3470f0c2a906e10d5ab7e28da094cd", func := "stereobate/stereobatelaw12.UnderTrue", spec := "underTrue", unfollowed := true, recurses := true, apart := false, narrowed := true }
def UnderTrueUptoSaid : Prop := underTrueUptoRow.holds Try.pinned (OpenSpec.upto underTrueSpec)

/-- 'stereobatelaw12.UnderPossible', WHERE WHAT IT READS IS OF BULK AT MOST 1048576: true; the input reads as it did. -/
def underPossibleUptoRow : OpenClaim := { program := "ytbkkigmlkafeiaa", sum := "c3f60b311db50cda7ddbc46cc35cebaf8c3470f0c2a906e10d5ab7e28da094cd", func := "stereobate/stereobatelaw12.UnderPossible", spec := "underPossible", unfollowed := true, recurses := true, apart := false, narrowed := true }
def UnderPossibleUptoSaid : Prop := underPossibleUptoRow.holds Try.pinned (OpenSpec.upto underPossibleSpec)

/-- 'stereobatelaw12.UnderMore', WHERE WHAT IT READS IS OF BULK AT MOST 1048576: true; the input reads as it did. -/
def underMoreUptoRow : OpenClaim := { program := "ytbkkigmlkafeiaa", sum := "c3f60b311db50cda7ddbc46cc35cebaf8c3470f0c2a906e10d5ab7e28da094cd", func := "stereobate/stereobatelaw12.UnderMore", spec := "underMore", unfollowed := true, recurses := true, apart := false, narrowed := true }
def UnderMoreUptoSaid : Prop := underMoreUptoRow.holds Try.pinned (OpenSpec.upto underMoreSpec)

end Rows
end Go.Proofs.Ytbkkigmlkafeiaa
