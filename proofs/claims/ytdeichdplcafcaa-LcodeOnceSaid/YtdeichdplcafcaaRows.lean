/-
  NARROWER THAN 'FOR EVERY INPUT', by the rows' own cells (each row's printed sentence says how): ArenaAny: loops · LcodePut: loops.
  DERIVED. THE GIVEN ROWS OF THIS SEAT. 11 by the template 'for every input the law returns true; each argument reads behind the call as it read before'; 0 by the template 'total and deterministic' (their statements: YtdeichdplcafcaaTotals.lean).
  GIVEN WITH THE SEED: the statements are not yours to turn. If you find one false, say at which input.
  Laid BY PROGRAM, IN A SANDBOX (cutbox-rows.mjs): the forced cells as the released guide's own fill.sh prints them over the translation eb69c8fefe9244eb… (all of the seat's roots in one cut). By AI agents, Wed Nov 11 2026. No macro, syntax, notation, axiom, sorry.
-/
import Derived.Test.YtdeichdplcafcaaChecked
import GoSem.Claim
import GoSem.ClaimJoined
import GoSem.ClaimMapViews
import Derived.JoinedTies
import Derived.KernelRfl
namespace Go.Proofs.Ytdeichdplcafcaa
/- THE CELL 'sum', in the pinned program and in every row, IS THE sha256 OF THE DUMP (.gsa) THAT YtdeichdplcafcaaProg.lean LOADS. Nothing in Lean hashes anything: it is a label: what it is worth is what the hold of that sum in a sandbox is worth. -/
noncomputable def Try.pinned : Pinned := { name := "ytdeichdplcafcaa", sum := "eb69c8fefe9244eb1f6d3ef5c2788ec6b0ec6f65d7babfbdf022fe19f7aef509", checked := Try.checked }
namespace Rows
def none {H : Type} : Left H := { results := [], args := [] }

/-- 'stereobatelaw04.ArenaAny': WHATEVER THE INPUT: true; the input reads as it did. -/
def arenaAnySpec : ChangeSpec := { name := "arenaAny", fn := fun _ => fun
  | [d1, d2, d3] => { results := [.lit (.bool true)], args := [d1, d2, d3] }
  | _ => none }
def arenaAnyRow : OpenClaim := { program := "ytdeichdplcafcaa", sum := "eb69c8fefe9244eb1f6d3ef5c2788ec6b0ec6f65d7babfbdf022fe19f7aef509", func := "stereobate/stereobatelaw04.ArenaAny", spec := "arenaAny", unfollowed := true, recurses := true, loops := true, plainKeys := false, apart := false }
def ArenaAnySaid : Prop := arenaAnyRow.holds Try.pinned (OpenSpec.ofChange arenaAnySpec)

/-- ITS FALSE NEIGHBOUR: 'it returns false'. Refute it at one input. -/
def arenaAnyWrong : ChangeSpec := { name := "arenaAny", fn := fun _ => fun
  | [d1, d2, d3] => { results := [.lit (.bool false)], args := [d1, d2, d3] }
  | _ => none }
def ArenaAnyWrongFalsely : Prop := arenaAnyRow.holds Try.pinned (OpenSpec.ofChange arenaAnyWrong)

/-- 'stereobatelaw04.ArenaMade': WHATEVER THE INPUT: true; the input reads as it did. -/
def arenaMadeSpec : ChangeSpec := { name := "arenaMade", fn := fun _ => fun
  | [d1, d2] => { results := [.lit (.bool true)], args := [d1, d2] }
  | _ => none }
def arenaMadeRow : OpenClaim := { program := "ytdeichdplcafcaa", sum := "eb69c8fefe9244eb1f6d3ef5c2788ec6b0ec6f65d7babfbdf022fe19f7aef509", func := "stereobate/stereobatelaw04.ArenaMade", spec := "arenaMade", unfollowed := true, recurses := true, plainKeys := false, apart := false }
def ArenaMadeSaid : Prop := arenaMadeRow.holds Try.pinned (OpenSpec.ofChange arenaMadeSpec)

/-- ITS FALSE NEIGHBOUR: 'it returns false'. Refute it at one input. -/
def arenaMadeWrong : ChangeSpec := { name := "arenaMade", fn := fun _ => fun
  | [d1, d2] => { results := [.lit (.bool false)], args := [d1, d2] }
  | _ => none }
def ArenaMadeWrongFalsely : Prop := arenaMadeRow.holds Try.pinned (OpenSpec.ofChange arenaMadeWrong)

/-- 'stereobatelaw04.ArenaSpoilt': WHATEVER THE INPUT: true; the input reads as it did. -/
def arenaSpoiltSpec : ChangeSpec := { name := "arenaSpoilt", fn := fun _ => fun
  | [d1, d2, d3, d4] => { results := [.lit (.bool true)], args := [d1, d2, d3, d4] }
  | _ => none }
def arenaSpoiltRow : OpenClaim := { program := "ytdeichdplcafcaa", sum := "eb69c8fefe9244eb1f6d3ef5c2788ec6b0ec6f65d7babfbdf022fe19f7aef509", func := "stereobate/stereobatelaw04.ArenaSpoilt", spec := "arenaSpoilt", unfollowed := true, recurses := true, plainKeys := false, apart := false }
def ArenaSpoiltSaid : Prop := arenaSpoiltRow.holds Try.pinned (OpenSpec.ofChange arenaSpoiltSpec)

/-- ITS FALSE NEIGHBOUR: 'it returns false'. Refute it at one input. -/
def arenaSpoiltWrong : ChangeSpec := { name := "arenaSpoilt", fn := fun _ => fun
  | [d1, d2, d3, d4] => { results := [.lit (.bool false)], args := [d1, d2, d3, d4] }
  | _ => none }
def ArenaSpoiltWrongFalsely : Prop := arenaSpoiltRow.holds Try.pinned (OpenSpec.ofChange arenaSpoiltWrong)

/-- 'stereobatelaw04.ArenaDeep': WHATEVER THE INPUT: true; the input reads as it did. -/
def arenaDeepSpec : ChangeSpec := { name := "arenaDeep", fn := fun _ => fun
  | [d1, d2, d3] => { results := [.lit (.bool true)], args := [d1, d2, d3] }
  | _ => none }
def arenaDeepRow : OpenClaim := { program := "ytdeichdplcafcaa", sum := "eb69c8fefe9244eb1f6d3ef5c2788ec6b0ec6f65d7babfbdf022fe19f7aef509", func := "stereobate/stereobatelaw04.ArenaDeep", spec := "arenaDeep", unfollowed := true, recurses := true, plainKeys := false, apart := false }
def ArenaDeepSaid : Prop := arenaDeepRow.holds Try.pinned (OpenSpec.ofChange arenaDeepSpec)

/-- ITS FALSE NEIGHBOUR: 'it returns false'. Refute it at one input. -/
def arenaDeepWrong : ChangeSpec := { name := "arenaDeep", fn := fun _ => fun
  | [d1, d2, d3] => { results := [.lit (.bool false)], args := [d1, d2, d3] }
  | _ => none }
def ArenaDeepWrongFalsely : Prop := arenaDeepRow.holds Try.pinned (OpenSpec.ofChange arenaDeepWrong)

/-- 'stereobatelaw04.ArenaBack': WHATEVER THE INPUT: true; the input reads as it did. -/
def arenaBackSpec : ChangeSpec := { name := "arenaBack", fn := fun _ => fun
  | [d] => { results := [.lit (.bool true)], args := [d] }
  | _ => none }
def arenaBackRow : OpenClaim := { program := "ytdeichdplcafcaa", sum := "eb69c8fefe9244eb1f6d3ef5c2788ec6b0ec6f65d7babfbdf022fe19f7aef509", func := "stereobate/stereobatelaw04.ArenaBack", spec := "arenaBack", unfollowed := true, recurses := true, plainKeys := false, apart := false }
def ArenaBackSaid : Prop := arenaBackRow.holds Try.pinned (OpenSpec.ofChange arenaBackSpec)

/-- ITS FALSE NEIGHBOUR: 'it returns false'. Refute it at one input. -/
def arenaBackWrong : ChangeSpec := { name := "arenaBack", fn := fun _ => fun
  | [d] => { results := [.lit (.bool false)], args := [d] }
  | _ => none }
def ArenaBackWrongFalsely : Prop := arenaBackRow.holds Try.pinned (OpenSpec.ofChange arenaBackWrong)

/-- 'stereobatelaw03.LcodeGet': WHATEVER THE INPUT: true; the input reads as it did. -/
def lcodeGetSpec : ChangeSpec := { name := "lcodeGet", fn := fun _ => fun
  | [d1, d2] => { results := [.lit (.bool true)], args := [d1, d2] }
  | _ => none }
def lcodeGetRow : OpenClaim := { program := "ytdeichdplcafcaa", sum := "eb69c8fefe9244eb1f6d3ef5c2788ec6b0ec6f65d7babfbdf022fe19f7aef509", func := "stereobate/stereobatelaw03.LcodeGet", spec := "lcodeGet", inPlace := ["internal/abi.NoEscape"], unfollowed := true, recurses := true, plainKeys := false, apart := false }
def LcodeGetSaid : Prop := lcodeGetRow.holds Try.pinned (OpenSpec.ofChange lcodeGetSpec)

/-- ITS FALSE NEIGHBOUR: 'it returns false'. Refute it at one input. -/
def lcodeGetWrong : ChangeSpec := { name := "lcodeGet", fn := fun _ => fun
  | [d1, d2] => { results := [.lit (.bool false)], args := [d1, d2] }
  | _ => none }
def LcodeGetWrongFalsely : Prop := lcodeGetRow.holds Try.pinned (OpenSpec.ofChange lcodeGetWrong)

/-- 'stereobatelaw03.LcodeSmall': WHATEVER THE INPUT: true; the input reads as it did. -/
def lcodeSmallSpec : ChangeSpec := { name := "lcodeSmall", fn := fun _ => fun
  | [d] => { results := [.lit (.bool true)], args := [d] }
  | _ => none }
def lcodeSmallRow : OpenClaim := { program := "ytdeichdplcafcaa", sum := "eb69c8fefe9244eb1f6d3ef5c2788ec6b0ec6f65d7babfbdf022fe19f7aef509", func := "stereobate/stereobatelaw03.LcodeSmall", spec := "lcodeSmall", inPlace := ["internal/abi.NoEscape"], unfollowed := true, recurses := true, plainKeys := false, apart := false }
def LcodeSmallSaid : Prop := lcodeSmallRow.holds Try.pinned (OpenSpec.ofChange lcodeSmallSpec)

/-- ITS FALSE NEIGHBOUR: 'it returns false'. Refute it at one input. -/
def lcodeSmallWrong : ChangeSpec := { name := "lcodeSmall", fn := fun _ => fun
  | [d] => { results := [.lit (.bool false)], args := [d] }
  | _ => none }
def LcodeSmallWrongFalsely : Prop := lcodeSmallRow.holds Try.pinned (OpenSpec.ofChange lcodeSmallWrong)

/-- 'stereobatelaw03.LcodePut': WHATEVER THE INPUT: true; the input reads as it did. -/
def lcodePutSpec : ChangeSpec := { name := "lcodePut", fn := fun _ => fun
  | [d1, d2] => { results := [.lit (.bool true)], args := [d1, d2] }
  | _ => none }
def lcodePutRow : OpenClaim := { program := "ytdeichdplcafcaa", sum := "eb69c8fefe9244eb1f6d3ef5c2788ec6b0ec6f65d7babfbdf022fe19f7aef509", func := "stereobate/stereobatelaw03.LcodePut", spec := "lcodePut", inPlace := ["internal/abi.NoEscape"], unfollowed := true, recurses := true, loops := true, plainKeys := false, apart := false }
def LcodePutSaid : Prop := lcodePutRow.holds Try.pinned (OpenSpec.ofChange lcodePutSpec)

/-- ITS FALSE NEIGHBOUR: 'it returns false'. Refute it at one input. -/
def lcodePutWrong : ChangeSpec := { name := "lcodePut", fn := fun _ => fun
  | [d1, d2] => { results := [.lit (.bool false)], args := [d1, d2] }
  | _ => none }
def LcodePutWrongFalsely : Prop := lcodePutRow.holds Try.pinned (OpenSpec.ofChange lcodePutWrong)

/-- 'stereobatelaw03.LcodeDeep': WHATEVER THE INPUT: true; the input reads as it did. -/
def lcodeDeepSpec : ChangeSpec := { name := "lcodeDeep", fn := fun _ => fun
  | [d1, d2] => { results := [.lit (.bool true)], args := [d1, d2] }
  | _ => none }
def lcodeDeepRow : OpenClaim := { program := "ytdeichdplcafcaa", sum := "eb69c8fefe9244eb1f6d3ef5c2788ec6b0ec6f65d7babfbdf022fe19f7aef509", func := "stereobate/stereobatelaw03.LcodeDeep", spec := "lcodeDeep", inPlace := ["internal/abi.NoEscape"], unfollowed := true, recurses := true, plainKeys := false, apart := false }
def LcodeDeepSaid : Prop := lcodeDeepRow.holds Try.pinned (OpenSpec.ofChange lcodeDeepSpec)

/-- ITS FALSE NEIGHBOUR: 'it returns false'. Refute it at one input. -/
def lcodeDeepWrong : ChangeSpec := { name := "lcodeDeep", fn := fun _ => fun
  | [d1, d2] => { results := [.lit (.bool false)], args := [d1, d2] }
  | _ => none }
def LcodeDeepWrongFalsely : Prop := lcodeDeepRow.holds Try.pinned (OpenSpec.ofChange lcodeDeepWrong)

/-- 'stereobatelaw03.LcodeBack': WHATEVER THE INPUT: true; the input reads as it did. -/
def lcodeBackSpec : ChangeSpec := { name := "lcodeBack", fn := fun _ => fun
  | [d1, d2, d3] => { results := [.lit (.bool true)], args := [d1, d2, d3] }
  | _ => none }
def lcodeBackRow : OpenClaim := { program := "ytdeichdplcafcaa", sum := "eb69c8fefe9244eb1f6d3ef5c2788ec6b0ec6f65d7babfbdf022fe19f7aef509", func := "stereobate/stereobatelaw03.LcodeBack", spec := "lcodeBack", inPlace := ["internal/abi.NoEscape"], unfollowed := true, recurses := true, plainKeys := false, apart := false }
def LcodeBackSaid : Prop := lcodeBackRow.holds Try.pinned (OpenSpec.ofChange lcodeBackSpec)

/-- ITS FALSE NEIGHBOUR: 'it returns false'. Refute it at one input. -/
def lcodeBackWrong : ChangeSpec := { name := "lcodeBack", fn := fun _ => fun
  | [d1, d2, d3] => { results := [.lit (.bool false)], args := [d1, d2, d3] }
  | _ => none }
def LcodeBackWrongFalsely : Prop := lcodeBackRow.holds Try.pinned (OpenSpec.ofChange lcodeBackWrong)

/-- 'stereobatelaw03.LcodeOnce': WHATEVER THE INPUT: true; the input reads as it did. -/
def lcodeOnceSpec : ChangeSpec := { name := "lcodeOnce", fn := fun _ => fun
  | [d1, d2, d3] => { results := [.lit (.bool true)], args := [d1, d2, d3] }
  | _ => none }
def lcodeOnceRow : OpenClaim := { program := "ytdeichdplcafcaa", sum := "eb69c8fefe9244eb1f6d3ef5c2788ec6b0ec6f65d7babfbdf022fe19f7aef509", func := "stereobate/stereobatelaw03.LcodeOnce", spec := "lcodeOnce", inPlace := ["internal/abi.NoEscape"], unfollowed := true, recurses := true, plainKeys := false, apart := false }
def LcodeOnceSaid : Prop := lcodeOnceRow.holds Try.pinned (OpenSpec.ofChange lcodeOnceSpec)

/-- ITS FALSE NEIGHBOUR: 'it returns false'. Refute it at one input. -/
def lcodeOnceWrong : ChangeSpec := { name := "lcodeOnce", fn := fun _ => fun
  | [d1, d2, d3] => { results := [.lit (.bool false)], args := [d1, d2, d3] }
  | _ => none }
def LcodeOnceWrongFalsely : Prop := lcodeOnceRow.holds Try.pinned (OpenSpec.ofChange lcodeOnceWrong)

/- THE SECOND FORM. 'bulk': how many values and letters a reading holds, each counted each time it is reached (what is shared counts as often as it is met; a slice's spare places count too). A statement '..UptoSaid' is the law's where the arguments, and the package variables that the reading takes, are together of bulk at most 1048576: NARROWER than '..Said'. Prove '..Said' where nothing that the law and all that it calls make is longer than what came in: it says more and counts as full. Else prove '..UptoSaid'. A law counts once. -/
mutual
def uptoBulk {H : Type} : DataW H → Nat
  | .lit (.string bytes) => bytes.length + 1
  | .lit _ => 1
  | .nil => 1
  | .ptr d => uptoBulk d + 1
  | .slice elems spare => uptoBulkAll elems + uptoBulkAll spare + 1
  | .agg parts => uptoBulkAll parts + 1
  | .iface _ d => uptoBulk d + 1
  | .map entries => uptoBulkEntries entries + 1
  | .held _ => 1
def uptoBulkAll {H : Type} : List (DataW H) → Nat
  | [] => 0
  | d :: r => uptoBulk d + uptoBulkAll r
def uptoBulkEntries {H : Type} : List (Lit × DataW H) → Nat
  | [] => 0
  | x :: r => uptoBulkEntry x + uptoBulkEntries r
def uptoBulkEntry {H : Type} : Lit × DataW H → Nat
  | (.string bytes, d) => bytes.length + uptoBulk d + 1
  | (_, d) => uptoBulk d + 1
 end
def uptoSmall : (H : Type) → List (DataW H) → Bool := fun _ ds => decide (uptoBulkAll ds ≤ 1048576)
def OpenSpec.upto (s : _root_.Go.ChangeSpec) : _root_.Go.OpenSpec := { _root_.Go.OpenSpec.ofChange s with cond := some uptoSmall }

/-- 'stereobatelaw04.ArenaAny', WHERE WHAT IT READS IS OF BULK AT MOST 1048576: true; the input reads as it did. -/
def arenaAnyUptoRow : OpenClaim := { program := "ytdeichdplcafcaa", sum := "eb69c8fefe9244eb1f6d3ef5c2788ec6b0ec6f65d7babfbdf022fe19f7aef509", func := "stereobate/stereobatelaw04.ArenaAny", spec := "arenaAny", unfollowed := true, recurses := true, loops := true, plainKeys := false, apart := false, narrowed := true }
def ArenaAnyUptoSaid : Prop := arenaAnyUptoRow.holds Try.pinned (OpenSpec.upto arenaAnySpec)

/-- 'stereobatelaw04.ArenaMade', WHERE WHAT IT READS IS OF BULK AT MOST 1048576: true; the input reads as it did. -/
def arenaMadeUptoRow : OpenClaim := { program := "ytdeichdplcafcaa", sum := "eb69c8fefe9244eb1f6d3ef5c2788ec6b0ec6f65d7babfbdf022fe19f7aef509", func := "stereobate/stereobatelaw04.ArenaMade", spec := "arenaMade", unfollowed := true, recurses := true, plainKeys := false, apart := false, narrowed := true }
def ArenaMadeUptoSaid : Prop := arenaMadeUptoRow.holds Try.pinned (OpenSpec.upto arenaMadeSpec)

/-- 'stereobatelaw04.ArenaSpoilt', WHERE WHAT IT READS IS OF BULK AT MOST 1048576: true; the input reads as it did. -/
def arenaSpoiltUptoRow : OpenClaim := { program := "ytdeichdplcafcaa", sum := "eb69c8fefe9244eb1f6d3ef5c2788ec6b0ec6f65d7babfbdf022fe19f7aef509", func := "stereobate/stereobatelaw04.ArenaSpoilt", spec := "arenaSpoilt", unfollowed := true, recurses := true, plainKeys := false, apart := false, narrowed := true }
def ArenaSpoiltUptoSaid : Prop := arenaSpoiltUptoRow.holds Try.pinned (OpenSpec.upto arenaSpoiltSpec)

/-- 'stereobatelaw04.ArenaDeep', WHERE WHAT IT READS IS OF BULK AT MOST 1048576: true; the input reads as it did. -/
def arenaDeepUptoRow : OpenClaim := { program := "ytdeichdplcafcaa", sum := "eb69c8fefe9244eb1f6d3ef5c2788ec6b0ec6f65d7babfbdf022fe19f7aef509", func := "stereobate/stereobatelaw04.ArenaDeep", spec := "arenaDeep", unfollowed := true, recurses := true, plainKeys := false, apart := false, narrowed := true }
def ArenaDeepUptoSaid : Prop := arenaDeepUptoRow.holds Try.pinned (OpenSpec.upto arenaDeepSpec)

/-- 'stereobatelaw04.ArenaBack', WHERE WHAT IT READS IS OF BULK AT MOST 1048576: true; the input reads as it did. -/
def arenaBackUptoRow : OpenClaim := { program := "ytdeichdplcafcaa", sum := "eb69c8fefe9244eb1f6d3ef5c2788ec6b0ec6f65d7babfbdf022fe19f7aef509", func := "stereobate/stereobatelaw04.ArenaBack", spec := "arenaBack", unfollowed := true, recurses := true, plainKeys := false, apart := false, narrowed := true }
def ArenaBackUptoSaid : Prop := arenaBackUptoRow.holds Try.pinned (OpenSpec.upto arenaBackSpec)

/-- 'stereobatelaw03.LcodeGet', WHERE WHAT IT READS IS OF BULK AT MOST 1048576: true; the input reads as it did. -/
def lcodeGetUptoRow : OpenClaim := { program := "ytdeichdplcafcaa", sum := "eb69c8fefe9244eb1f6d3ef5c2788ec6b0ec6f65d7babfbdf022fe19f7aef509", func := "stereobate/stereobatelaw03.LcodeGet", spec := "lcodeGet", inPlace := ["internal/abi.NoEscape"], unfollowed := true, recurses := true, plainKeys := false, apart := false, narrowed := true }
def LcodeGetUptoSaid : Prop := lcodeGetUptoRow.holds Try.pinned (OpenSpec.upto lcodeGetSpec)

/-- 'stereobatelaw03.LcodeSmall', WHERE WHAT IT READS IS OF BULK AT MOST 1048576: true; the input reads as it did. -/
def lcodeSmallUptoRow : OpenClaim := { program := "ytdeichdplcafcaa", sum := "eb69c8fefe9244eb1f6d3ef5c2788ec6b0ec6f65d7babfbdf022fe19f7aef509", func := "stereobate/stereobatelaw03.LcodeSmall", spec := "lcodeSmall", inPlace := ["internal/abi.NoEscape"], unfollowed := true, recurses := true, plainKeys := false, apart := false, narrowed := true }
def LcodeSmallUptoSaid : Prop := lcodeSmallUptoRow.holds Try.pinned (OpenSpec.upto lcodeSmallSpec)

/-- 'stereobatelaw03.LcodePut', WHERE WHAT IT READS IS OF BULK AT MOST 1048576: true; the input reads as it did. -/
def lcodePutUptoRow : OpenClaim := { program := "ytdeichdplcafcaa", sum := "eb69c8fefe9244eb1f6d3ef5c2788ec6b0ec6f65d7babfbdf022fe19f7aef509", func := "stereobate/stereobatelaw03.LcodePut", spec := "lcodePut", inPlace := ["internal/abi.NoEscape"], unfollowed := true, recurses := true, loops := true, plainKeys := false, apart := false, narrowed := true }
def LcodePutUptoSaid : Prop := lcodePutUptoRow.holds Try.pinned (OpenSpec.upto lcodePutSpec)

/-- 'stereobatelaw03.LcodeDeep', WHERE WHAT IT READS IS OF BULK AT MOST 1048576: true; the input reads as it did. -/
def lcodeDeepUptoRow : OpenClaim := { program := "ytdeichdplcafcaa", sum := "eb69c8fefe9244eb1f6d3ef5c2788ec6b0ec6f65d7babfbdf022fe19f7aef509", func := "stereobate/stereobatelaw03.LcodeDeep", spec := "lcodeDeep", inPlace := ["internal/abi.NoEscape"], unfollowed := true, recurses := true, plainKeys := false, apart := false, narrowed := true }
def LcodeDeepUptoSaid : Prop := lcodeDeepUptoRow.holds Try.pinned (OpenSpec.upto lcodeDeepSpec)

/-- 'stereobatelaw03.LcodeBack', WHERE WHAT IT READS IS OF BULK AT MOST 1048576: true; the input reads as it did. -/
def lcodeBackUptoRow : OpenClaim := { program := "ytdeichdplcafcaa", sum := "eb69c8fefe9244eb1f6d3ef5c2788ec6b0ec6f65d7babfbdf022fe19f7aef509", func := "stereobate/stereobatelaw03.LcodeBack", spec := "lcodeBack", inPlace := ["internal/abi.NoEscape"], unfollowed := true, recurses := true, plainKeys := false, apart := false, narrowed := true }
def LcodeBackUptoSaid : Prop := lcodeBackUptoRow.holds Try.pinned (OpenSpec.upto lcodeBackSpec)

/-- 'stereobatelaw03.LcodeOnce', WHERE WHAT IT READS IS OF BULK AT MOST 1048576: true; the input reads as it did. -/
def lcodeOnceUptoRow : OpenClaim := { program := "ytdeichdplcafcaa", sum := "eb69c8fefe9244eb1f6d3ef5c2788ec6b0ec6f65d7babfbdf022fe19f7aef509", func := "stereobate/stereobatelaw03.LcodeOnce", spec := "lcodeOnce", inPlace := ["internal/abi.NoEscape"], unfollowed := true, recurses := true, plainKeys := false, apart := false, narrowed := true }
def LcodeOnceUptoSaid : Prop := lcodeOnceUptoRow.holds Try.pinned (OpenSpec.upto lcodeOnceSpec)

end Rows
end Go.Proofs.Ytdeichdplcafcaa
