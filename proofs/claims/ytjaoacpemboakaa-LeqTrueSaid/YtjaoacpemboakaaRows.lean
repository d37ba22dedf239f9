/-
  NARROWER THAN 'FOR EVERY INPUT', by the rows' own cells (each row's printed sentence says how): FlatAny: loops · LeqAny: loops.
  DERIVED. THE GIVEN ROWS OF THIS SEAT. 10 by the template 'for every input the law returns true; each argument reads behind the call as it read before'; 0 by the template 'total and deterministic' (their statements: YtjaoacpemboakaaTotals.lean).
  GIVEN WITH THE SEED: the statements are not yours to turn. If you find one false, say at which input.
  Laid BY PROGRAM, IN A SANDBOX (cutbox-rows.mjs): the forced cells as the released guide's own fill.sh prints them over the translation dc803c4263dab92a… (all of the seat's roots in one cut). By AI agents, Wed Nov 11 2026. No macro, syntax, notation, axiom, sorry.
-/
import Derived.Test.YtjaoacpemboakaaChecked
import GoSem.Claim
import GoSem.ClaimJoined
import GoSem.ClaimMapViews
import Derived.JoinedTies
import Derived.KernelRfl
namespace Go.Proofs.Ytjaoacpemboakaa
/- THE CELL 'sum', in the pinned program and in every row, IS THE sha256 OF THE DUMP (.gsa) THAT YtjaoacpemboakaaProg.lean LOADS. Nothing in Lean hashes anything: it is a label: what it is worth is what the hold of that sum in a sandbox is worth. -/
noncomputable def Try.pinned : Pinned := { name := "ytjaoacpemboakaa", sum := "dc803c4263dab92a885895ffc182ee269ded0169b9e3e9ac8d239c4d343b8ba3", checked := Try.checked }
namespace Rows
def none {H : Type} : Left H := { results := [], args := [] }

/-- 'stereobatelaw06.FlatAny': WHATEVER THE INPUT: true; the input reads as it did. -/
def flatAnySpec : ChangeSpec := { name := "flatAny", fn := fun _ => fun
  | [d1, d2, d3, d4, d5] => { results := [.lit (.bool true)], args := [d1, d2, d3, d4, d5] }
  | _ => none }
def flatAnyRow : OpenClaim := { program := "ytjaoacpemboakaa", sum := "dc803c4263dab92a885895ffc182ee269ded0169b9e3e9ac8d239c4d343b8ba3", func := "stereobate/stereobatelaw06.FlatAny", spec := "flatAny", unfollowed := true, recurses := true, loops := true, apart := false }
def FlatAnySaid : Prop := flatAnyRow.holds Try.pinned (OpenSpec.ofChange flatAnySpec)

/-- ITS FALSE NEIGHBOUR: 'it returns false'. Refute it at one input. -/
def flatAnyWrong : ChangeSpec := { name := "flatAny", fn := fun _ => fun
  | [d1, d2, d3, d4, d5] => { results := [.lit (.bool false)], args := [d1, d2, d3, d4, d5] }
  | _ => none }
def FlatAnyWrongFalsely : Prop := flatAnyRow.holds Try.pinned (OpenSpec.ofChange flatAnyWrong)

/-- 'stereobatelaw06.FlatMade': WHATEVER THE INPUT: true; the input reads as it did. -/
def flatMadeSpec : ChangeSpec := { name := "flatMade", fn := fun _ => fun
  | [d1, d2, d3] => { results := [.lit (.bool true)], args := [d1, d2, d3] }
  | _ => none }
def flatMadeRow : OpenClaim := { program := "ytjaoacpemboakaa", sum := "dc803c4263dab92a885895ffc182ee269ded0169b9e3e9ac8d239c4d343b8ba3", func := "stereobate/stereobatelaw06.FlatMade", spec := "flatMade", unfollowed := true, recurses := true, apart := false }
def FlatMadeSaid : Prop := flatMadeRow.holds Try.pinned (OpenSpec.ofChange flatMadeSpec)

/-- ITS FALSE NEIGHBOUR: 'it returns false'. Refute it at one input. -/
def flatMadeWrong : ChangeSpec := { name := "flatMade", fn := fun _ => fun
  | [d1, d2, d3] => { results := [.lit (.bool false)], args := [d1, d2, d3] }
  | _ => none }
def FlatMadeWrongFalsely : Prop := flatMadeRow.holds Try.pinned (OpenSpec.ofChange flatMadeWrong)

/-- 'stereobatelaw06.FlatSpoilt': WHATEVER THE INPUT: true; the input reads as it did. -/
def flatSpoiltSpec : ChangeSpec := { name := "flatSpoilt", fn := fun _ => fun
  | [d1, d2, d3, d4, d5] => { results := [.lit (.bool true)], args := [d1, d2, d3, d4, d5] }
  | _ => none }
def flatSpoiltRow : OpenClaim := { program := "ytjaoacpemboakaa", sum := "dc803c4263dab92a885895ffc182ee269ded0169b9e3e9ac8d239c4d343b8ba3", func := "stereobate/stereobatelaw06.FlatSpoilt", spec := "flatSpoilt", unfollowed := true, recurses := true, apart := false }
def FlatSpoiltSaid : Prop := flatSpoiltRow.holds Try.pinned (OpenSpec.ofChange flatSpoiltSpec)

/-- ITS FALSE NEIGHBOUR: 'it returns false'. Refute it at one input. -/
def flatSpoiltWrong : ChangeSpec := { name := "flatSpoilt", fn := fun _ => fun
  | [d1, d2, d3, d4, d5] => { results := [.lit (.bool false)], args := [d1, d2, d3, d4, d5] }
  | _ => none }
def FlatSpoiltWrongFalsely : Prop := flatSpoiltRow.holds Try.pinned (OpenSpec.ofChange flatSpoiltWrong)

/-- 'stereobatelaw06.FlatIs': WHATEVER THE INPUT: true; the input reads as it did. -/
def flatIsSpec : ChangeSpec := { name := "flatIs", fn := fun _ => fun
  | [d1, d2, d3] => { results := [.lit (.bool true)], args := [d1, d2, d3] }
  | _ => none }
def flatIsRow : OpenClaim := { program := "ytjaoacpemboakaa", sum := "dc803c4263dab92a885895ffc182ee269ded0169b9e3e9ac8d239c4d343b8ba3", func := "stereobate/stereobatelaw06.FlatIs", spec := "flatIs", unfollowed := true, recurses := true, apart := false }
def FlatIsSaid : Prop := flatIsRow.holds Try.pinned (OpenSpec.ofChange flatIsSpec)

/-- ITS FALSE NEIGHBOUR: 'it returns false'. Refute it at one input. -/
def flatIsWrong : ChangeSpec := { name := "flatIs", fn := fun _ => fun
  | [d1, d2, d3] => { results := [.lit (.bool false)], args := [d1, d2, d3] }
  | _ => none }
def FlatIsWrongFalsely : Prop := flatIsRow.holds Try.pinned (OpenSpec.ofChange flatIsWrong)

/-- 'stereobatelaw06.FlatLeq': WHATEVER THE INPUT: true; the input reads as it did. -/
def flatLeqSpec : ChangeSpec := { name := "flatLeq", fn := fun _ => fun
  | [d1, d2, d3, d4] => { results := [.lit (.bool true)], args := [d1, d2, d3, d4] }
  | _ => none }
def flatLeqRow : OpenClaim := { program := "ytjaoacpemboakaa", sum := "dc803c4263dab92a885895ffc182ee269ded0169b9e3e9ac8d239c4d343b8ba3", func := "stereobate/stereobatelaw06.FlatLeq", spec := "flatLeq", unfollowed := true, recurses := true, apart := false }
def FlatLeqSaid : Prop := flatLeqRow.holds Try.pinned (OpenSpec.ofChange flatLeqSpec)

/-- ITS FALSE NEIGHBOUR: 'it returns false'. Refute it at one input. -/
def flatLeqWrong : ChangeSpec := { name := "flatLeq", fn := fun _ => fun
  | [d1, d2, d3, d4] => { results := [.lit (.bool false)], args := [d1, d2, d3, d4] }
  | _ => none }
def FlatLeqWrongFalsely : Prop := flatLeqRow.holds Try.pinned (OpenSpec.ofChange flatLeqWrong)

/-- 'stereobatelaw07.LeqAny': WHATEVER THE INPUT: true; the input reads as it did. -/
def leqAnySpec : ChangeSpec := { name := "leqAny", fn := fun _ => fun
  | [d1, d2, d3] => { results := [.lit (.bool true)], args := [d1, d2, d3] }
  | _ => none }
def leqAnyRow : OpenClaim := { program := "ytjaoacpemboakaa", sum := "dc803c4263dab92a885895ffc182ee269ded0169b9e3e9ac8d239c4d343b8ba3", func := "stereobate/stereobatelaw07.LeqAny", spec := "leqAny", unfollowed := true, recurses := true, loops := true, apart := false }
def LeqAnySaid : Prop := leqAnyRow.holds Try.pinned (OpenSpec.ofChange leqAnySpec)

/-- ITS FALSE NEIGHBOUR: 'it returns false'. Refute it at one input. -/
def leqAnyWrong : ChangeSpec := { name := "leqAny", fn := fun _ => fun
  | [d1, d2, d3] => { results := [.lit (.bool false)], args := [d1, d2, d3] }
  | _ => none }
def LeqAnyWrongFalsely : Prop := leqAnyRow.holds Try.pinned (OpenSpec.ofChange leqAnyWrong)

/-- 'stereobatelaw07.LeqMade': WHATEVER THE INPUT: true; the input reads as it did. -/
def leqMadeSpec : ChangeSpec := { name := "leqMade", fn := fun _ => fun
  | [d1, d2, d3] => { results := [.lit (.bool true)], args := [d1, d2, d3] }
  | _ => none }
def leqMadeRow : OpenClaim := { program := "ytjaoacpemboakaa", sum := "dc803c4263dab92a885895ffc182ee269ded0169b9e3e9ac8d239c4d343b8ba3", func := "stereobate/stereobatelaw07.LeqMade", spec := "leqMade", unfollowed := true, recurses := true, apart := false }
def LeqMadeSaid : Prop := leqMadeRow.holds Try.pinned (OpenSpec.ofChange leqMadeSpec)

/-- ITS FALSE NEIGHBOUR: 'it returns false'. Refute it at one input. -/
def leqMadeWrong : ChangeSpec := { name := "leqMade", fn := fun _ => fun
  | [d1, d2, d3] => { results := [.lit (.bool false)], args := [d1, d2, d3] }
  | _ => none }
def LeqMadeWrongFalsely : Prop := leqMadeRow.holds Try.pinned (OpenSpec.ofChange leqMadeWrong)

/-- 'stereobatelaw07.LeqNear': WHATEVER THE INPUT: true; the input reads as it did. -/
def leqNearSpec : ChangeSpec := { name := "leqNear", fn := fun _ => fun
  | [d1, d2] => { results := [.lit (.bool true)], args := [d1, d2] }
  | _ => none }
def leqNearRow : OpenClaim := { program := "ytjaoacpemboakaa", sum := "dc803c4263dab92a885895ffc182ee269ded0169b9e3e9ac8d239c4d343b8ba3", func := "stereobate/stereobatelaw07.LeqNear", spec := "leqNear", unfollowed := true, recurses := true, apart := false }
def LeqNearSaid : Prop := leqNearRow.holds Try.pinned (OpenSpec.ofChange leqNearSpec)

/-- ITS FALSE NEIGHBOUR: 'it returns false'. Refute it at one input. -/
def leqNearWrong : ChangeSpec := { name := "leqNear", fn := fun _ => fun
  | [d1, d2] => { results := [.lit (.bool false)], args := [d1, d2] }
  | _ => none }
def LeqNearWrongFalsely : Prop := leqNearRow.holds Try.pinned (OpenSpec.ofChange leqNearWrong)

/-- 'stereobatelaw07.LeqTrue': WHATEVER THE INPUT: true; the input reads as it did. -/
def leqTrueSpec : ChangeSpec := { name := "leqTrue", fn := fun _ => fun
  | [d1, d2] => { results := [.lit (.bool true)], args := [d1, d2] }
  | _ => none }
def leqTrueRow : OpenClaim := { program := "ytjaoacpemboakaa", sum := "dc803c4263dab92a885895ffc182ee269ded0169b9e3e9ac8d239c4d343b8ba3", func := "stereobate/stereobatelaw07.LeqTrue", spec := "leqTrue", unfollowed := true, recurses := true, apart := false }
def LeqTrueSaid : Prop := leqTrueRow.holds Try.pinned (OpenSpec.ofChange leqTrueSpec)

/-- ITS FALSE NEIGHBOUR: 'it returns false'. Refute it at one input. -/
def leqTrueWrong : ChangeSpec := { name := "leqTrue", fn := fun _ => fun
  | [d1, d2] => { results := [.lit (.bool false)], args := [d1, d2] }
  | _ => none }
def LeqTrueWrongFalsely : Prop := leqTrueRow.holds Try.pinned (OpenSpec.ofChange leqTrueWrong)

/-- 'stereobatelaw07.LeqOrder': WHATEVER THE INPUT: true; the input reads as it did. -/
def leqOrderSpec : ChangeSpec := { name := "leqOrder", fn := fun _ => fun
  | [d1, d2, d3] => { results := [.lit (.bool true)], args := [d1, d2, d3] }
  | _ => none }
def leqOrderRow : OpenClaim := { program := "ytjaoacpemboakaa", sum := "dc803c4263dab92a885895ffc182ee269ded0169b9e3e9ac8d239c4d343b8ba3", func := "stereobate/stereobatelaw07.LeqOrder", spec := "leqOrder", unfollowed := true, recurses := true, apart := false }
def LeqOrderSaid : Prop := leqOrderRow.holds Try.pinned (OpenSpec.ofChange leqOrderSpec)

/-- ITS FALSE NEIGHBOUR: 'it returns false'. Refute it at one input. -/
def leqOrderWrong : ChangeSpec := { name := "leqOrder", fn := fun _ => fun
  | [d1, d2, d3] => { results := [.lit (.bool false)], args := [d1, d2, d3] }
  | _ => none }
def LeqOrderWrongFalsely : Prop := leqOrderRow.holds Try.pinned (OpenSpec.ofChange leqOrderWrong)

/- THE SECOND FORM. 'bulk': how many values and letters a reading holds, each counted each time it is reached (what is shared counts as often as it is met; a slice's spare places count too). A statement '..UptoSaid' is the law's where the arguments, and the package variables that the reading takes, are together of bulk at most 1048576: NARROWER than '..Said'. Prove '..Said' where nothing that the law and all that it calls make is longer than what came in: it says more and counts as full. Else prove '..UptoSaid'. A law counts once. -/
mutual
def uptoBulk {H : Type} : DataW H → Nat
  | .lit (.string bytes) => bytes.length + 1
  | .lit _ => 1
  | .nil => 1
  | .ptr d => uptoBulk d + 1
  | .slice elems spare => uptoBulkAll elems + uptoBulkAll spare + 1
  | .agg parts => uptoBulkAll parts + 1
  | .iface _ d => uptoBulk d + 1
  | .map entries => uptoBulkEntries entries + 1
  | .held _ => 1
def uptoBulkAll {H : Type} : List (DataW H) → Nat
  | [] => 0
  | d :: r => uptoBulk d + uptoBulkAll r
def uptoBulkEntries {H : Type} : List (Lit × DataW H) → Nat
  | [] => 0
  | x :: r => uptoBulkEntry x + uptoBulkEntries r
def uptoBulkEntry {H : Type} : Lit × DataW H → Nat
  | (.string bytes, d) => bytes.length + uptoBulk d + 1
  | (_, d) => uptoBulk d + 1
 end
def uptoSmall : (H : Type) → List (DataW H) → Bool := fun _ ds => decide (uptoBulkAll ds ≤ 1048576)
def OpenSpec.upto (s : _root_.Go.ChangeSpec) : _root_.Go.OpenSpec := { _root_.Go.OpenSpec.ofChange s with cond := some uptoSmall }

/-- 'stereobatelaw06.FlatAny', WHERE WHAT IT READS IS OF BULK AT MOST 1048576: true; the input reads as it did. -/
def flatAnyUptoRow : OpenClaim := { program := "ytjaoacpemboakaa", sum := "dc803c4263dab92a885895ffc182ee269ded0169b9e3e9ac8d239c4d343b8ba3", func := "stereobate/stereobatelaw06.FlatAny", spec := "flatAny", unfollowed := true, recurses := true, loops := true, apart := false, narrowed := true }
def FlatAnyUptoSaid : Prop := flatAnyUptoRow.holds Try.pinned (OpenSpec.upto flatAnySpec)

/-- 'stereobatelaw06.FlatMade', WHERE WHAT IT READS IS OF BULK AT MOST 1048576: true; the input reads as it did. -/
def flatMadeUptoRow : OpenClaim := { program := "ytjaoacpemboakaa", sum := "dc803c4263dab92a885895ffc182ee269ded0169b9e3e9ac8d239c4d343b8ba3", func := "stereobate/stereobatelaw06.FlatMade", spec := "flatMade", unfollowed := true, recurses := true, apart := false, narrowed := true }
def FlatMadeUptoSaid : Prop := flatMadeUptoRow.holds Try.pinned (OpenSpec.upto flatMadeSpec)

/-- 'stereobatelaw06.FlatSpoilt', WHERE WHAT IT READS IS OF BULK AT MOST 1048576: true; the input reads as it did. -/
def flatSpoiltUptoRow : OpenClaim := { program := "ytjaoacpemboakaa", sum := "dc803c4263dab92a885895ffc182ee269ded0169b9e3e9ac8d239c4d343b8ba3", func := "stereobate/stereobatelaw06.FlatSpoilt", spec := "flatSpoilt", unfollowed := true, recurses := true, apart := false, narrowed := true }
def FlatSpoiltUptoSaid : Prop := flatSpoiltUptoRow.holds Try.pinned (OpenSpec.upto flatSpoiltSpec)

/-- 'stereobatelaw06.FlatIs', WHERE WHAT IT READS IS OF BULK AT MOST 1048576: true; the input reads as it did. -/
def flatIsUptoRow : OpenClaim := { program := "ytjaoacpemboakaa", sum := "dc803c4263dab92a885895ffc182ee269ded0169b9e3e9ac8d239c4d343b8ba3", func := "stereobate/stereobatelaw06.FlatIs", spec := "flatIs", unfollowed := true, recurses := true, apart := false, narrowed := true }
def FlatIsUptoSaid : Prop := flatIsUptoRow.holds Try.pinned (OpenSpec.upto flatIsSpec)

/-- 'stereobatelaw06.FlatLeq', WHERE WHAT IT READS IS OF BULK AT MOST 1048576: true; the input reads as it did. -/
def flatLeqUptoRow : OpenClaim := { program := "ytjaoacpemboakaa", sum := "dc803c4263dab92a885895ffc182ee269ded0169b9e3e9ac8d239c4d343b8ba3", func := "stereobate/stereobatelaw06.FlatLeq", spec := "flatLeq", unfollowed := true, recurses := true, apart := false, narrowed := true }
def FlatLeqUptoSaid : Prop := flatLeqUptoRow.holds Try.pinned (OpenSpec.upto flatLeqSpec)

/-- 'stereobatelaw07.LeqAny', WHERE WHAT IT READS IS OF BULK AT MOST 1048576: true; the input reads as it did. -/
def leqAnyUptoRow : OpenClaim := { program := "ytjaoacpemboakaa", sum := "dc803c4263dab92a885895ffc182ee269ded0169b9e3e9ac8d239c4d343b8ba3", func := "stereobate/stereobatelaw07.LeqAny", spec := "leqAny", unfollowed := true, recurses := true, loops := true, apart := false, narrowed := true }
def LeqAnyUptoSaid : Prop := leqAnyUptoRow.holds Try.pinned (OpenSpec.upto leqAnySpec)

/-- 'stereobatelaw07.LeqMade', WHERE WHAT IT READS IS OF BULK AT MOST 1048576: true; the input reads as it did. -/
def leqMadeUptoRow : OpenClaim := { program := "ytjaoacpemboakaa", sum := "dc803c4263dab92a885895ffc182ee269ded0169b9e3e9ac8d239c4d343b8ba3", func := "stereobate/stereobatelaw07.LeqMade", spec := "leqMade", unfollowed := true, recurses := true, apart := false, narrowed := true }
def LeqMadeUptoSaid : Prop := leqMadeUptoRow.holds Try.pinned (OpenSpec.upto leqMadeSpec)

/-- 'stereobatelaw07.LeqNear', WHERE WHAT IT READS IS OF BULK AT MOST 1048576: true; the input reads as it did. -/
def leqNearUptoRow : OpenClaim := { program := "ytjaoacpemboakaa", sum := "dc803c4263dab92a885895ffc182ee269ded0169b9e3e9ac8d239c4d343b8ba3", func := "stereobate/stereobatelaw07.LeqNear", spec := "leqNear", unfollowed := true, recurses := true, apart := false, narrowed := true }
def LeqNearUptoSaid : Prop := leqNearUptoRow.holds Try.pinned (OpenSpec.upto leqNearSpec)

/-- 'stereobatelaw07.LeqTrue', WHERE WHAT IT READS IS OF BULK AT MOST 1048576: true; the input reads as it did. -/
def leqTrueUptoRow : OpenClaim := { program := "ytjaoacpemboakaa", sum := "dc803c4263dab92a885895ffc182ee269ded0169b9e3e9ac8d239c4d343b8ba3", func := "stereobate/stereobatelaw07.LeqTrue", spec := "leqTrue", unfollowed := true, recurses := true, apart := false, narrowed := true }
def LeqTrueUptoSaid : Prop := leqTrueUptoRow.holds Try.pinned (OpenSpec.upto leqTrueSpec)

/-- 'stereobatelaw07.LeqOrder', WHERE WHAT IT READS IS OF BULK AT MOST 1048576: true; the input reads as it did. -/
def leqOrderUptoRow : OpenClaim := { program := "ytjaoacpemboakaa", sum := "dc803c4263dab92a885895ffc182ee269ded0169b9e3e9ac8d239c4d343b8ba3", func := "stereobate/stereobatelaw07.LeqOrder", spec := "leqOrder", unfollowed := true, recurses := true, apart := false, narrowed := true }
def LeqOrderUptoSaid : Prop := leqOrderUptoRow.holds Try.pinned (OpenSpec.upto leqOrderSpec)

end Rows
end Go.Proofs.Ytjaoacpemboakaa
