/-
  No cell of these rows narrows 'for every input' (looked for: loops, veiled, ifaces, maps, wideKeys, modest, calm, conditions, laid).
  DERIVED. THE GIVEN ROWS OF THIS SEAT. 3 by the template 'for every input the law returns true; each argument reads behind the call as it read before'; 0 by the template 'total and deterministic' (their statements: YtglabbjideniaaaGreatTotals.lean).
  GIVEN WITH THE SEED: the statements are not yours to turn. If you find one false, say at which input.
  Laid BY PROGRAM, IN A SANDBOX (cutbox-rows.mjs): the forced cells as the released guide's own fill.sh prints them over the translation 4a0e7b206f4717d6… (all of the seat's roots in one cut). By AI agents, Wed Nov 11 2026. No macro, syntax, notation, axiom, sorry.
-/
import Derived.Test.YtglabbjideniaaaGreatChecked
import GoSem.Claim
import GoSem.ClaimJoined
import GoSem.ClaimMapViews
import Derived.JoinedTies
import Derived.KernelRfl
namespace Go.Proofs.YtglabbjideniaaaGreat
/- THE CELL 'sum', in the pinned program and in every row, IS THE sha256 OF THE DUMP (.gsa) THAT YtglabbjideniaaaGreatProg.lean LOADS. Nothing in Lean hashes anything: it is a label: what it is worth is what the hold of that sum in a sandbox is worth. -/
noncomputable def Tryz.pinned : Pinned := { name := "ytglabbjideniaaagreat", sum := "4a0e7b206f4717d6f5a61a4973005f66023990a61877ce3f220623dc271fce2d", checked := Tryz.checked }
namespace Rows
def none {H : Type} : Left H := { results := [], args := [] }

/-- 'stereobatetop.TopTotal': WHATEVER THE INPUT: true; the input reads as it did. -/
def topTotalSpec : ChangeSpec := { name := "topTotal", fn := fun _ => fun
  | [d1, d2, d3, d4] => { results := [.lit (.bool true)], args := [d1, d2, d3, d4] }
  | _ => none }
def topTotalRow : OpenClaim := { program := "ytglabbjideniaaagreat", sum := "4a0e7b206f4717d6f5a61a4973005f66023990a61877ce3f220623dc271fce2d", func := "stereobate/stereobatetop.TopTotal", spec := "topTotal", inPlace := ["internal/abi.NoEscape"], unfollowed := true, recurses := true, plainKeys := false, apart := false }
def TopTotalSaid : Prop := topTotalRow.holds Tryz.pinned (OpenSpec.ofChange topTotalSpec)

/-- ITS FALSE NEIGHBOUR: 'it returns false'. Refute it at one input. -/
def topTotalWrong : ChangeSpec := { name := "topTotal", fn := fun _ => fun
  | [d1, d2, d3, d4] => { results := [.lit (.bool false)], args := [d1, d2, d3, d4] }
  | _ => none }
def TopTotalWrongFalsely : Prop := topTotalRow.holds Tryz.pinned (OpenSpec.ofChange topTotalWrong)

/-- 'stereobatetop.TopLevels': WHATEVER THE INPUT: true; the input reads as it did. -/
def topLevelsSpec : ChangeSpec := { name := "topLevels", fn := fun _ => fun
  | [d] => { results := [.lit (.bool true)], args := [d] }
  | _ => none }
def topLevelsRow : OpenClaim := { program := "ytglabbjideniaaagreat", sum := "4a0e7b206f4717d6f5a61a4973005f66023990a61877ce3f220623dc271fce2d", func := "stereobate/stereobatetop.TopLevels", spec := "topLevels", inPlace := ["internal/abi.NoEscape"], unfollowed := true, recurses := true, plainKeys := false, apart := false }
def TopLevelsSaid : Prop := topLevelsRow.holds Tryz.pinned (OpenSpec.ofChange topLevelsSpec)

/-- ITS FALSE NEIGHBOUR: 'it returns false'. Refute it at one input. -/
def topLevelsWrong : ChangeSpec := { name := "topLevels", fn := fun _ => fun
  | [d] => { results := [.lit (.bool false)], args := [d] }
  | _ => none }
def TopLevelsWrongFalsely : Prop := topLevelsRow.holds Tryz.pinned (OpenSpec.ofChange topLevelsWrong)

/-- 'stereobatetop.TopPlain': WHATEVER THE INPUT: true; the input reads as it did. -/
def topPlainSpec : ChangeSpec := { name := "topPlain", fn := fun _ => fun
  | [d1, d2, d3] => { results := [.lit (.bool true)], args := [d1, d2, d3] }
  | _ => none }
def topPlainRow : OpenClaim := { program := "ytglabbjideniaaagreat", sum := "4a0e7b206f4717d6f5a61a4973005f66023990a61877ce3f220623dc271fce2d", func := "stereobate/stereobatetop.TopPlain", spec := "topPlain", inPlace := ["internal/abi.NoEscape"], unfollowed := true, recurses := true, plainKeys := false, apart := false }
def TopPlainSaid : Prop := topPlainRow.holds Tryz.pinned (OpenSpec.ofChange topPlainSpec)

/-- ITS FALSE NEIGHBOUR: 'it returns false'. Refute it at one input. -/
def topPlainWrong : ChangeSpec := { name := "topPlain", fn := fun _ => fun
  | [d1, d2, d3] => { results := [.lit (.bool false)], args := [d1, d2, d3] }
  | _ => none }
def TopPlainWrongFalsely : Prop := topPlainRow.holds Tryz.pinned (OpenSpec.ofChange topPlainWrong)

/- THE SECOND FORM. 'bulk': how many values and letters a reading holds, each counted each time it is reached (what is shared counts as often as it is met; a slice's spare places count too). A statement '..UptoSaid' is the law's where the arguments, and the package variables that the reading takes, are together of bulk at most 1048576: NARROWER than '..Said'. Prove '..Said' where nothing that the law and all that it calls make is longer than what came in: it says more and counts as full. Else prove '..UptoSaid'. A law counts once. -/
mutual
def uptoBulk {H : Type} : DataW H → Nat
  | .lit (.string bytes) => bytes.length + 1
  | .lit _ => 1
  | .nil => 1
  | .ptr d => uptoBulk d + 1
  | .slice elems spare => uptoBulkAll elems + uptoBulkAll spare + 1
  | .agg parts => uptoBulkAll parts + 1
  | .iface _ d => uptoBulk d + 1
  | .map entries => uptoBulkEntries entries + 1
  | .held _ => 1
def uptoBulkAll {H : Type} : List (DataW H) → Nat
  | [] => 0
  | d :: r => uptoBulk d + uptoBulkAll r
def uptoBulkEntries {H : Type} : List (Lit × DataW H) → Nat
  | [] => 0
  | x :: r => uptoBulkEntry x + uptoBulkEntries r
def uptoBulkEntry {H : Type} : Lit × DataW H → Nat
  | (.string bytes, d) => bytes.length + uptoBulk d + 1
  | (_, d) => uptoBulk d + 1
 end
def uptoSmall : (H : Type) → List (DataW H) → Bool := fun _ ds => decide (uptoBulkAll ds ≤ 1048576)
def OpenSpec.upto (s : _root_.Go.ChangeSpec) : _root_.Go.OpenSpec := { _root_.Go.OpenSpec.ofChange s with cond := some uptoSmall }

/-- 'stereobatetop.TopTotal', WHERE WHAT IT READS IS OF BULK AT MOST 1048576: true; the input reads as it did. -/
def topTotalUptoRow : OpenClaim := { program := "ytglabbjideniaaagreat", sum := "4a0e7b206f4717d6f5a61a4973005f66023990a61877ce3f220623dc271fce2d", func := "stereobate/stereobatetop.TopTotal", spec := "topTotal", inPlace := ["internal/abi.NoEscape"], unfollowed := true, recurses := true, plainKeys := false, apart := false, narrowed := true }
def TopTotalUptoSaid : Prop := topTotalUptoRow.holds Tryz.pinned (OpenSpec.upto topTotalSpec)

/-- 'stereobatetop.TopLevels', WHERE WHAT IT READS IS OF BULK AT MOST 1048576: true; the input reads as it did. -/
def topLevelsUptoRow : OpenClaim := { program := "ytglabbjideniaaagreat", sum := "4a0e7b206f4717d6f5a61a4973005f66023990a61877ce3f220623dc271fce2d", func := "stereobate/stereobatetop.TopLevels", spec := "topLevels", inPlace := ["internal/abi.NoEscape"], unfollowed := true, recurses := true, plainKeys := false, apart := false, narrowed := true }
def TopLevelsUptoSaid : Prop := topLevelsUptoRow.holds Tryz.pinned (OpenSpec.upto topLevelsSpec)

/-- 'stereobatetop.TopPlain', WHERE WHAT IT READS IS OF BULK AT MOST 1048576: true; the input reads as it did. -/
def topPlainUptoRow : OpenClaim := { program := "ytglabbjideniaaagreat", sum := "4a0e7b206f4717d6f5a61a4973005f66023990a61877ce3f220623dc271fce2d", func := "stereobate/stereobatetop.TopPlain", spec := "topPlain", inPlace := ["internal/abi.NoEscape"], unfollowed := true, recurses := true, plainKeys := false, apart := false, narrowed := true }
def TopPlainUptoSaid : Prop := topPlainUptoRow.holds Tryz.pinned (OpenSpec.upto topPlainSpec)

end Rows
end Go.Proofs.YtglabbjideniaaaGreat
