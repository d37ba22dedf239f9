/-
  NARROWER THAN 'FOR EVERY INPUT', by the rows' own cells (each row's printed sentence says how): LevelAny: loops.
  DERIVED. THE GIVEN ROWS OF THIS SEAT. 9 by the template 'for every input the law returns true; each argument reads behind the call as it read before'; 0 by the template 'total and deterministic' (their statements: YtglibfclhecbkaaTotals.lean).
  GIVEN WITH THE SEED: the statements are not yours to turn. If you find one false, say at which input.
  Laid BY PROGRAM, IN A SANDBOX (cutbox-rows.mjs): the forced cells as the released guide's own fill.sh prints them over the translation a17554fe6ebec014… (all of the seat's roots in one cut). By AI agents, Wed Nov 11 2026. No macro, syntax, notation, axiom, sorry.
-/
import Derived.Test.YtglibfclhecbkaaChecked
import GoSem.Claim
import GoSem.ClaimJoined
import GoSem.ClaimMapViews
import Derived.JoinedTies
import Derived.KernelRfl
namespace Go.Proofs.Ytglibfclhecbkaa
/- THE CELL 'sum', in the pinned program and in every row, IS THE sha256 OF THE DUMP (.gsa) THAT YtglibfclhecbkaaProg.lean LOADS. Nothing in Lean hashes anything: it is a label: what it is worth is what the hold of that sum in a sandbox is worth. -/
noncomputable def Try.pinned : Pinned := { name := "ytglibfclhecbkaa", sum := "a17554fe6ebec014ffd2e4bb0f0c60808e1973f6aa363a1e1e1798d4b5f40cfc", checked := Try.checked }
namespace Rows
def none {H : Type} : Left H := { results := [], args := [] }

/-- 'stereobatelaw01.OctetPut': WHATEVER THE INPUT: true; the input reads as it did. -/
def octetPutSpec : ChangeSpec := { name := "octetPut", fn := fun _ => fun
  | [d] => { results := [.lit (.bool true)], args := [d] }
  | _ => none }
def octetPutRow : OpenClaim := { program := "ytglibfclhecbkaa", sum := "a17554fe6ebec014ffd2e4bb0f0c60808e1973f6aa363a1e1e1798d4b5f40cfc", func := "stereobate/stereobatelaw01.OctetPut", spec := "octetPut", unfollowed := true, recurses := true, apart := false }
def OctetPutSaid : Prop := octetPutRow.holds Try.pinned (OpenSpec.ofChange octetPutSpec)

/-- ITS FALSE NEIGHBOUR: 'it returns false'. Refute it at one input. -/
def octetPutWrong : ChangeSpec := { name := "octetPut", fn := fun _ => fun
  | [d] => { results := [.lit (.bool false)], args := [d] }
  | _ => none }
def OctetPutWrongFalsely : Prop := octetPutRow.holds Try.pinned (OpenSpec.ofChange octetPutWrong)

/-- 'stereobatelaw01.OctetGet': WHATEVER THE INPUT: true; the input reads as it did. -/
def octetGetSpec : ChangeSpec := { name := "octetGet", fn := fun _ => fun
  | [d1, d2] => { results := [.lit (.bool true)], args := [d1, d2] }
  | _ => none }
def octetGetRow : OpenClaim := { program := "ytglibfclhecbkaa", sum := "a17554fe6ebec014ffd2e4bb0f0c60808e1973f6aa363a1e1e1798d4b5f40cfc", func := "stereobate/stereobatelaw01.OctetGet", spec := "octetGet", unfollowed := true, recurses := true, apart := false }
def OctetGetSaid : Prop := octetGetRow.holds Try.pinned (OpenSpec.ofChange octetGetSpec)

/-- ITS FALSE NEIGHBOUR: 'it returns false'. Refute it at one input. -/
def octetGetWrong : ChangeSpec := { name := "octetGet", fn := fun _ => fun
  | [d1, d2] => { results := [.lit (.bool false)], args := [d1, d2] }
  | _ => none }
def OctetGetWrongFalsely : Prop := octetGetRow.holds Try.pinned (OpenSpec.ofChange octetGetWrong)

/-- 'stereobatelaw01.OctetSmall': WHATEVER THE INPUT: true; the input reads as it did. -/
def octetSmallSpec : ChangeSpec := { name := "octetSmall", fn := fun _ => fun
  | [d] => { results := [.lit (.bool true)], args := [d] }
  | _ => none }
def octetSmallRow : OpenClaim := { program := "ytglibfclhecbkaa", sum := "a17554fe6ebec014ffd2e4bb0f0c60808e1973f6aa363a1e1e1798d4b5f40cfc", func := "stereobate/stereobatelaw01.OctetSmall", spec := "octetSmall", unfollowed := true, recurses := true, apart := false }
def OctetSmallSaid : Prop := octetSmallRow.holds Try.pinned (OpenSpec.ofChange octetSmallSpec)

/-- ITS FALSE NEIGHBOUR: 'it returns false'. Refute it at one input. -/
def octetSmallWrong : ChangeSpec := { name := "octetSmall", fn := fun _ => fun
  | [d] => { results := [.lit (.bool false)], args := [d] }
  | _ => none }
def OctetSmallWrongFalsely : Prop := octetSmallRow.holds Try.pinned (OpenSpec.ofChange octetSmallWrong)

/-- 'stereobatelaw01.OctetBack': WHATEVER THE INPUT: true; the input reads as it did. -/
def octetBackSpec : ChangeSpec := { name := "octetBack", fn := fun _ => fun
  | [d1, d2, d3] => { results := [.lit (.bool true)], args := [d1, d2, d3] }
  | _ => none }
def octetBackRow : OpenClaim := { program := "ytglibfclhecbkaa", sum := "a17554fe6ebec014ffd2e4bb0f0c60808e1973f6aa363a1e1e1798d4b5f40cfc", func := "stereobate/stereobatelaw01.OctetBack", spec := "octetBack", unfollowed := true, recurses := true, apart := false }
def OctetBackSaid : Prop := octetBackRow.holds Try.pinned (OpenSpec.ofChange octetBackSpec)

/-- ITS FALSE NEIGHBOUR: 'it returns false'. Refute it at one input. -/
def octetBackWrong : ChangeSpec := { name := "octetBack", fn := fun _ => fun
  | [d1, d2, d3] => { results := [.lit (.bool false)], args := [d1, d2, d3] }
  | _ => none }
def OctetBackWrongFalsely : Prop := octetBackRow.holds Try.pinned (OpenSpec.ofChange octetBackWrong)

/-- 'stereobatelaw01.OctetOnce': WHATEVER THE INPUT: true; the input reads as it did. -/
def octetOnceSpec : ChangeSpec := { name := "octetOnce", fn := fun _ => fun
  | [d1, d2] => { results := [.lit (.bool true)], args := [d1, d2] }
  | _ => none }
def octetOnceRow : OpenClaim := { program := "ytglibfclhecbkaa", sum := "a17554fe6ebec014ffd2e4bb0f0c60808e1973f6aa363a1e1e1798d4b5f40cfc", func := "stereobate/stereobatelaw01.OctetOnce", spec := "octetOnce", unfollowed := true, recurses := true, apart := false }
def OctetOnceSaid : Prop := octetOnceRow.holds Try.pinned (OpenSpec.ofChange octetOnceSpec)

/-- ITS FALSE NEIGHBOUR: 'it returns false'. Refute it at one input. -/
def octetOnceWrong : ChangeSpec := { name := "octetOnce", fn := fun _ => fun
  | [d1, d2] => { results := [.lit (.bool false)], args := [d1, d2] }
  | _ => none }
def OctetOnceWrongFalsely : Prop := octetOnceRow.holds Try.pinned (OpenSpec.ofChange octetOnceWrong)

/-- 'stereobatelaw02.LevelAny': WHATEVER THE INPUT: true; the input reads as it did. -/
def levelAnySpec : ChangeSpec := { name := "levelAny", fn := fun _ => fun
  | [d1, d2, d3, d4, d5] => { results := [.lit (.bool true)], args := [d1, d2, d3, d4, d5] }
  | _ => none }
def levelAnyRow : OpenClaim := { program := "ytglibfclhecbkaa", sum := "a17554fe6ebec014ffd2e4bb0f0c60808e1973f6aa363a1e1e1798d4b5f40cfc", func := "stereobate/stereobatelaw02.LevelAny", spec := "levelAny", unfollowed := true, recurses := true, loops := true, apart := false }
def LevelAnySaid : Prop := levelAnyRow.holds Try.pinned (OpenSpec.ofChange levelAnySpec)

/-- ITS FALSE NEIGHBOUR: 'it returns false'. Refute it at one input. -/
def levelAnyWrong : ChangeSpec := { name := "levelAny", fn := fun _ => fun
  | [d1, d2, d3, d4, d5] => { results := [.lit (.bool false)], args := [d1, d2, d3, d4, d5] }
  | _ => none }
def LevelAnyWrongFalsely : Prop := levelAnyRow.holds Try.pinned (OpenSpec.ofChange levelAnyWrong)

/-- 'stereobatelaw02.LevelMade': WHATEVER THE INPUT: true; the input reads as it did. -/
def levelMadeSpec : ChangeSpec := { name := "levelMade", fn := fun _ => fun
  | [d1, d2, d3, d4, d5] => { results := [.lit (.bool true)], args := [d1, d2, d3, d4, d5] }
  | _ => none }
def levelMadeRow : OpenClaim := { program := "ytglibfclhecbkaa", sum := "a17554fe6ebec014ffd2e4bb0f0c60808e1973f6aa363a1e1e1798d4b5f40cfc", func := "stereobate/stereobatelaw02.LevelMade", spec := "levelMade", unfollowed := true, recurses := true, apart := false }
def LevelMadeSaid : Prop := levelMadeRow.holds Try.pinned (OpenSpec.ofChange levelMadeSpec)

/-- ITS FALSE NEIGHBOUR: 'it returns false'. Refute it at one input. -/
def levelMadeWrong : ChangeSpec := { name := "levelMade", fn := fun _ => fun
  | [d1, d2, d3, d4, d5] => { results := [.lit (.bool false)], args := [d1, d2, d3, d4, d5] }
  | _ => none }
def LevelMadeWrongFalsely : Prop := levelMadeRow.holds Try.pinned (OpenSpec.ofChange levelMadeWrong)

/-- 'stereobatelaw02.LevelDeep': WHATEVER THE INPUT: true; the input reads as it did. -/
def levelDeepSpec : ChangeSpec := { name := "levelDeep", fn := fun _ => fun
  | [d1, d2, d3] => { results := [.lit (.bool true)], args := [d1, d2, d3] }
  | _ => none }
def levelDeepRow : OpenClaim := { program := "ytglibfclhecbkaa", sum := "a17554fe6ebec014ffd2e4bb0f0c60808e1973f6aa363a1e1e1798d4b5f40cfc", func := "stereobate/stereobatelaw02.LevelDeep", spec := "levelDeep", unfollowed := true, recurses := true, apart := false }
def LevelDeepSaid : Prop := levelDeepRow.holds Try.pinned (OpenSpec.ofChange levelDeepSpec)

/-- ITS FALSE NEIGHBOUR: 'it returns false'. Refute it at one input. -/
def levelDeepWrong : ChangeSpec := { name := "levelDeep", fn := fun _ => fun
  | [d1, d2, d3] => { results := [.lit (.bool false)], args := [d1, d2, d3] }
  | _ => none }
def LevelDeepWrongFalsely : Prop := levelDeepRow.holds Try.pinned (OpenSpec.ofChange levelDeepWrong)

/-- 'stereobatelaw02.LevelMore': WHATEVER THE INPUT: true; the input reads as it did. -/
def levelMoreSpec : ChangeSpec := { name := "levelMore", fn := fun _ => fun
  | [d1, d2, d3, d4] => { results := [.lit (.bool true)], args := [d1, d2, d3, d4] }
  | _ => none }
def levelMoreRow : OpenClaim := { program := "ytglibfclhecbkaa", sum := "a17554fe6ebec014ffd2e4bb0f0c60808e1973f6aa363a1e1e1798d4b5f40cfc", func := "stereobate/stereobatelaw02.LevelMore", spec := "levelMore", unfollowed := true, recurses := true, apart := false }
def LevelMoreSaid : Prop := levelMoreRow.holds Try.pinned (OpenSpec.ofChange levelMoreSpec)

/-- ITS FALSE NEIGHBOUR: 'it returns false'. Refute it at one input. -/
def levelMoreWrong : ChangeSpec := { name := "levelMore", fn := fun _ => fun
  | [d1, d2, d3, d4] => { results := [.lit (.bool false)], args := [d1, d2, d3, d4] }
  | _ => none }
def LevelMoreWrongFalsely : Prop := levelMoreRow.holds Try.pinned (OpenSpec.ofChange levelMoreWrong)

/- THE SECOND FORM. 'bulk': how many values and letters a reading holds, each counted each time it is reached (what is shared counts as often as it is met; a slice's spare places count too). A statement '..UptoSaid' is the law's where the arguments, and the package variables that the reading takes, are together of bulk at most 1048576: NARROWER than '..Said'. Prove '..Said' where nothing that the law and all that it calls make is longer than what came in: it says more and counts as full. Else prove '..UptoSaid'. A law counts once. -/
mutual
def uptoBulk {H : Type} : DataW H → Nat
  | .lit (.string bytes) => bytes.length + 1
  | .lit _ => 1
  | .nil => 1
  | .ptr d => uptoBulk d + 1
  | .slice elems spare => uptoBulkAll elems + uptoBulkAll spare + 1
  | .agg parts => uptoBulkAll parts + 1
  | .iface _ d => uptoBulk d + 1
  | .map entries => uptoBulkEntries entries + 1
  | .held _ => 1
def uptoBulkAll {H : Type} : List (DataW H) → Nat
  | [] => 0
  | d :: r => uptoBulk d + uptoBulkAll r
def uptoBulkEntries {H : Type} : List (Lit × DataW H) → Nat
  | [] => 0
  | x :: r => uptoBulkEntry x + uptoBulkEntries r
def uptoBulkEntry {H : Type} : Lit × DataW H → Nat
  | (.string bytes, d) => bytes.length + uptoBulk d + 1
  | (_, d) => uptoBulk d + 1
 end
def uptoSmall : (H : Type) → List (DataW H) → Bool := fun _ ds => decide (uptoBulkAll ds ≤ 1048576)
def OpenSpec.upto (s : _root_.Go.ChangeSpec) : _root_.Go.OpenSpec := { _root_.Go.OpenSpec.ofChange s with cond := some uptoSmall }

/-- 'stereobatelaw01.OctetPut', WHERE WHAT IT READS IS OF BULK AT MOST 1048576: true; the input reads as it did. -/
def octetPutUptoRow : OpenClaim := { program := "ytglibfclhecbkaa", sum := "a17554fe6ebec014ffd2e4bb0f0c60808e1973f6aa363a1e1e1798d4b5f40cfc", func := "stereobate/stereobatelaw01.OctetPut", spec := "octetPut", unfollowed := true, recurses := true, apart := false, narrowed := true }
def OctetPutUptoSaid : Prop := octetPutUptoRow.holds Try.pinned (OpenSpec.upto octetPutSpec)

/-- 'stereobatelaw01.OctetGet', WHERE WHAT IT READS IS OF BULK AT MOST 1048576: true; the input reads as it did. -/
def octetGetUptoRow : OpenClaim := { program := "ytglibfclhecbkaa", sum := "a17554fe6ebec014ffd2e4bb0f0c60808e1973f6aa363a1e1e1798d4b5f40cfc", func := "stereobate/stereobatelaw01.OctetGet", spec := "octetGet", unfollowed := true, recurses := true, apart := false, narrowed := true }
def OctetGetUptoSaid : Prop := octetGetUptoRow.holds Try.pinned (OpenSpec.upto octetGetSpec)

/-- 'stereobatelaw01.OctetSmall', WHERE WHAT IT READS IS OF BULK AT MOST 1048576: true; the input reads as it did. -/
def octetSmallUptoRow : OpenClaim := { program := "ytglibfclhecbkaa", sum := "a17554fe6ebec014ffd2e4bb0f0c60808e1973f6aa363a1e1e1798d4b5f40cfc", func := "stereobate/stereobatelaw01.OctetSmall", spec := "octetSmall", unfollowed := true, recurses := true, apart := false, narrowed := true }
def OctetSmallUptoSaid : Prop := octetSmallUptoRow.holds Try.pinned (OpenSpec.upto octetSmallSpec)

/-- 'stereobatelaw01.OctetBack', WHERE WHAT IT READS IS OF BULK AT MOST 1048576: true; the input reads as it did. -/
def octetBackUptoRow : OpenClaim := { program := "ytglibfclhecbkaa", sum := "a17554fe6ebec014ffd2e4bb0f0c60808e1973f6aa363a1e1e1798d4b5f40cfc", func := "stereobate/stereobatelaw01.OctetBack", spec := "octetBack", unfollowed := true, recurses := true, apart := false, narrowed := true }
def OctetBackUptoSaid : Prop := octetBackUptoRow.holds Try.pinned (OpenSpec.upto octetBackSpec)

/-- 'stereobatelaw01.OctetOnce', WHERE WHAT IT READS IS OF BULK AT MOST 1048576: true; the input reads as it did. -/
def octetOnceUptoRow : OpenClaim := { program := "ytglibfclhecbkaa", sum := "a17554fe6ebec014ffd2e4bb0f0c60808e1973f6aa363a1e1e1798d4b5f40cfc", func := "stereobate/stereobatelaw01.OctetOnce", spec := "octetOnce", unfollowed := true, recurses := true, apart := false, narrowed := true }
def OctetOnceUptoSaid : Prop := octetOnceUptoRow.holds Try.pinned (OpenSpec.upto octetOnceSpec)

/-- 'stereobatelaw02.LevelAny', WHERE WHAT IT READS IS OF BULK AT MOST 1048576: true; the input reads as it did. -/
def levelAnyUptoRow : OpenClaim := { program := "ytglibfclhecbkaa", sum := "a17554fe6ebec014ffd2e4bb0f0c60808e1973f6aa363a1e1e1798d4b5f40cfc", func := "stereobate/stereobatelaw02.LevelAny", spec := "levelAny", unfollowed := true, recurses := true, loops := true, apart := false, narrowed := true }
def LevelAnyUptoSaid : Prop := levelAnyUptoRow.holds Try.pinned (OpenSpec.upto levelAnySpec)

/-- 'stereobatelaw02.LevelMade', WHERE WHAT IT READS IS OF BULK AT MOST 1048576: true; the input reads as it did. -/
def levelMadeUptoRow : OpenClaim := { program := "ytglibfclhecbkaa", sum := "a17554fe6ebec014ffd2e4bb0f0c60808e1973f6aa363a1e1e1798d4b5f40cfc", func := "stereobate/stereobatelaw02.LevelMade", spec := "levelMade", unfollowed := true, recurses := true, apart := false, narrowed := true }
def LevelMadeUptoSaid : Prop := levelMadeUptoRow.holds Try.pinned (OpenSpec.upto levelMadeSpec)

/-- 'stereobatelaw02.LevelDeep', WHERE WHAT IT READS IS OF BULK AT MOST 1048576: true; the input reads as it did. -/
def levelDeepUptoRow : OpenClaim := { program := "ytglibfclhecbkaa", sum := "a17554fe6ebec014ffd2e4bb0f0c60808e1973f6aa363a1e1e1798d4b5f40cfc", func := "stereobate/stereobatelaw02.LevelDeep", spec := "levelDeep", unfollowed := true, recurses := true, apart := false, narrowed := true }
def LevelDeepUptoSaid : Prop := levelDeepUptoRow.holds Try.pinned (OpenSpec.upto levelDeepSpec)

/-- 'stereobatelaw02.LevelMore', WHERE WHAT IT READS IS OF BULK AT MOST 1048576: true; the input reads as it did. -/
def levelMoreUptoRow : OpenClaim := { program := "ytglibfclhecbkaa", sum := "a17554fe6ebec014ffd2e4bb0f0c60808e1973f6aa363a1e1e1798d4b5f40cfc", func := "stereobate/stereobatelaw02.LevelMore", spec := "levelMore", unfollowed := true, recurses := true, apart := false, narrowed := true }
def LevelMoreUptoSaid : Prop := levelMoreUptoRow.holds Try.pinned (OpenSpec.upto levelMoreSpec)

end Rows
end Go.Proofs.Ytglibfclhecbkaa
