/- A value-level interpreter of the compiled code, its soundness and its rules, part 1. -/
import GoSem.Step
import Derived.Control
import Derived.Laws.Append
import Derived.Laws.World
import Derived.IntWalk
import Derived.Laws.BytesString
import Derived.Lib.ConvBytes
set_option linter.unusedSimpArgs false
set_option linter.unusedVariables false
/- The value-level interpreter: its values, its code, its run. Plain definitions; nothing of any program. -/
namespace Pi
open Go (IntKind TypeId FuncId Fn BinOp UnOp LoopState)

inductive V where
  | b (x : Bool)
  | i (k : IntKind) (n : Int)
  | s (x : ByteArray)
  | np
  | p (l off : Nat)
  | rp (cs : List V)
  | ns
  | sl (cs : List V) (len : Nat)
  | ms (l off len esz : Nat)
  | nm
  | mp (l : Nat)
  | rm (ks vs : List V)
  | nf
  | fn (f : Fn) (first cap : List V)
  | ni
  | fc (t : TypeId) (v : V)
  | ag (cs : List V)
  | tu (vs : List V)
  | un
  deriving Inhabited

def V.cells : V → List V
  | .ag cs => cs
  | v => [v]

/-- May it be put into cells? -/
def V.stor : V → Bool
  | .tu _ | .un => false
  | _ => true

inductive Opd where
  | t (n : Nat)
  | c (v : V)

/-- The kinds of what is compared: numbers, truths, texts. -/
inductive K where
  | i | b | s
  deriving DecidableEq

/-- What two values are compared by: one scalar, or scalar cells. -/
inductive Q where
  | one (k : K)
  | many (ks : List K)

/-- What a length is asked of: a text, a slice, a map; and how much a slice holds (told of no slice alone). -/
inductive LK where
  | s | l | m | c

/-- What strings.Builder needs: a variable of a type that is kept in mind; a text put behind bytes of such a type; pointers compared; a pointer seen without its type, and seen again with it; where bytes lie; bytes as a text. -/
inductive UK where
  | alt (T : Nat) (z : List V)
  | apt (T : Nat)
  | pe (neg : Bool)
  | tu
  | fu (Ts : List Nat)
  | sd
  | us (T : Nat)

inductive POp where
  | mv (x : Opd)
  | pk (c a b : Opd)
  | al (z : List V)
  | bx (x : Opd)
  | bd (z : List V) (ps : List (Nat × Nat × Opd))
  | bs (esz n : Nat) (z : List V) (ps : List (Nat × Nat × Opd))
  | ld (ag : Bool) (n : Nat) (a : Opd)
  | st (n : Nat) (a x : Opd)
  | nc (x : Opd)
  | bi (op : BinOp) (x y : Opd)
  | eq (neg : Bool) (q : Q) (x y : Opd)
  | un (op : UnOp) (x : Opd)
  | ci (k : IntKind) (x : Opd)
  | cbs (x : Opd)
  | csb (x : Opd)
  | mi (t : TypeId) (x : Opd)
  | mf (f : Fn) (first cap : List Opd)
  | mm
  | mk (esz : Nat) (z : List V) (len cap : Opd)
  | ss (x : Opd) (lo hi : Option Opd)
  | sv (esz : Nat) (x : Opd) (lo hi mx : Option Opd)
  | sa (n esz : Nat) (x : Opd) (lo hi : Option Opd)
  | fa (off : Nat) (x : Opd)
  | fe (ag : Bool) (off n : Nat) (x : Opd)
  | ia (esz : Nat) (x i : Opd)
  | iz (len esz : Nat) (x i : Opd)
  | xa (ag : Bool) (len esz : Nat) (x i : Opd)
  | xs (x i : Opd)
  | lk (q : Q) (z : V) (m k : Opd) (ok : Bool)
  | mu (q : Q) (m k v : Opd)
  | ta (t : TypeId) (z : V) (x : Opd) (ok : Bool)
  | ex (x : Opd) (i : Nat)
  | ln (k : LK) (x : Opd)
  | ap (esz : Nat) (s x : Opd)
  | an (esz : Nat) (z : List V) (s x : Opd)
  | cp (esz : Nat) (d x : Opd)
  | mx (xs : List Opd)
  | mn (xs : List Opd)
  | ca (f : Opd) (args : List Opd)
  | pa (x : Opd)
  | df (f : Opd) (args : List Opd)
  | rc
  | no
  | ub (k : UK) (x y : Opd)

structure POper where
  d : Option Nat
  o : POp
  g : Option (Nat × Bool)

/-- A piece of a region: in order, or in any order (with the pairs of operations that have to touch unlike things). -/
inductive Seg where
  | seq (ops : List POper)
  | any (ops : List POper) (prs : List (Nat × Nat))

inductive PCode where
  | skip
  | reg (segs : List Seg)
  | seq (a b : PCode)
  | cond (c : Opd) (a b : PCode)
  | block (id : Nat) (c : PCode)
  | loop (c : PCode)
  | rf (f : Opd) (ps : List Nat) (asg body : PCode)
  | exit (id : Nat)
  | scope (c : PCode)
  | ret
  deriving Inhabited

abbrev Env := Nat → V
def Env.set (e : Env) (t : Nat) (v : V) : Env := fun j => if j = t then v else e j

/-- How a piece of code ends. -/
inductive X where
  | nor
  | exit (id : Nat)
  | ret
  | pan (v : V)

structure LoopRec where
  e : Env
  ps : List Nat
  asg : PCode
  body : PCode
  st : LoopState
  pend : Option X

inductive PObj where
  | cells (cs : List V) (ro : Bool)
  | map (ks vs : List V) (ro : Bool)
  | loop (r : LoopRec)
  | dfr
  | lit (cs : List V)   -- a list as it was written: there is no room behind it
  | tc (T : Nat) (cs : List V)   -- cells whose type is kept in mind
  | tr (T : Nat) (cs : List V)   -- such cells, of which a text was made: they are read alone

abbrev Sto := Nat → Option PObj
def Sto.set (m : Sto) (l : Nat) (o : Option PObj) : Sto := fun j => if j = l then o else m j
abbrev Ws := List (Nat × Option PObj)
def Sto.app (m : Sto) (ws : Ws) : Sto := ws.foldl (fun m w => m.set w.1 w.2) m

def Opd.ev (e : Env) : Opd → V
  | .t n => e n
  | .c v => v

def eqK : K → V → V → Option Bool
  | .i, .i k a, .i k' b => if k = k' then some (a == b) else none
  | .b, .b a, .b b => some (a == b)
  | .s, .s a, .s b => some (a == b)
  | _, _, _ => none

def eqL : List K → List V → List V → Option Bool
  | [], [], [] => some true
  | k :: ks, x :: xs, y :: ys => (eqK k x y).bind fun c => (eqL ks xs ys).map fun d => c && d
  | _, _, _ => none

def eqQ : Q → V → V → Option Bool
  | .one k, x, y => eqK k x y
  | .many ks, .ag xs, .ag ys => eqL ks xs ys
  | _, _, _ => none

/-- Where a key stands, of some keys. -/
def find (q : Q) (k : V) : List V → Nat → Option (Option Nat)
  | [], _ => some none
  | x :: xs, j => (eqQ q k x).bind fun c => if c then some (some j) else find q k xs (j + 1)

def findIn (q : Q) (k : V) (ks : List V) : Option (Option Nat) := if (eqQ q k k).isSome then find q k ks 0 else none

/-- What a map tells of a key. -/
def look (q : Q) (z k : V) (ok : Bool) (ks vs : List V) : Option (V × List (Nat × Option PObj)) := (findIn q k ks).bind fun
  | some j => (vs[j]?).map fun v => (if ok then .tu [v, .b true] else v, [])
  | none => some (if ok then .tu [z, .b false] else z, [])

def binI (op : BinOp) (k : IntKind) (a b : Int) : Option V :=
  match op with
  | .add => some (.i k (k.wrap (a + b)))
  | .sub => some (.i k (k.wrap (a - b)))
  | .mul => some (.i k (k.wrap (a * b)))
  | .quo => if b = 0 then none else some (.i k (k.wrap (a.tdiv b)))
  | .rem => if b = 0 then none else some (.i k (a.tmod b))
  | .and => some (.i k (k.wrap (BitVec.ofInt k.bits a &&& BitVec.ofInt k.bits b).toNat))
  | .or => some (.i k (k.wrap (BitVec.ofInt k.bits a ||| BitVec.ofInt k.bits b).toNat))
  | .xor => some (.i k (k.wrap (BitVec.ofInt k.bits a ^^^ BitVec.ofInt k.bits b).toNat))
  | .andNot => some (.i k (k.wrap (BitVec.ofInt k.bits a &&& ~~~(BitVec.ofInt k.bits b)).toNat))
  | .eql => some (.b (a == b))
  | .neq => some (.b (a != b))
  | .lss => some (.b (decide (a < b)))
  | .leq => some (.b (decide (a ≤ b)))
  | .gtr => some (.b (decide (a > b)))
  | .geq => some (.b (decide (a ≥ b)))
  | .shl | .shr => none

def BIG : Nat := 2147483648

def bin (op : BinOp) (x y : V) : Option V :=
  match x, y with
  | .i k a, .i k' b =>
    match op with
    | .shl => if b < 0 then none else some (.i k (k.wrap (a * 2 ^ min b.toNat k.bits)))
    | .shr => if b < 0 then none else some (.i k (a.fdiv (2 ^ min b.toNat k.bits)))
    | op => if k = k' then binI op k a b else none
  | .s a, .s b =>
    match op with
    | .add => if a.size + b.size ≤ BIG then some (.s (a ++ b)) else none
    | .eql => some (.b (a.toList == b.toList))
    | .neq => some (.b (!(a.toList == b.toList)))
    | _ => none
  | _, _ => none

def una (op : UnOp) (x : V) : Option V :=
  match op, x with
  | .not, .b a => some (.b (!a))
  | .neg, .i k n => some (.i k (k.wrap (0 - n)))
  | _, _ => none

/-- Some cells put in the place of others. -/
def splice (cs : List V) (off : Nat) (xs : List V) : List V := cs.take off ++ xs ++ cs.drop (off + xs.length)

def fill (e : Env) (cs : List V) : List (Nat × Nat × Opd) → Option (List V)
  | [] => some cs
  | (off, n, x) :: r =>
    let c := (x.ev e).cells
    if c.length = n ∧ off + n ≤ cs.length ∧ (x.ev e).stor then fill e (splice cs off c) r else none

def zeros (z : List V) : Nat → List V
  | 0 => []
  | n + 1 => z ++ zeros z n

def getPart (ag : Bool) (n : Nat) (cs : List V) (off : Nat) : Option V :=
  if ag then (if off + n ≤ cs.length then some (.ag ((cs.drop off).take n)) else none) else cs[off]?

/-- A list as it is written: of constraints with nil lists it is kept in mind that there is no room behind it. -/
def litO (esz : Nat) (cs : List V) : PObj := match esz with
  | 6 => (match cs with | [_, _, .ns, _, _, .ns] => .lit cs | _ => .cells cs false)
  | _ => .cells cs false

/-- A slice's cells. -/
def slCells (m : Sto) (esz : Nat) : V → Option (List V)
  | .ns => some []
  | .sl cs len => if cs.length = len * esz then some cs else none
  | .ms l off len esz' =>
    match m l with
    | some (.cells cs _) => if esz' = esz ∧ off + len * esz ≤ cs.length then some ((cs.drop off).take (len * esz)) else none
    | some (.lit cs) => if esz' = esz ∧ off + len * esz ≤ cs.length then some ((cs.drop off).take (len * esz)) else none
    | _ => none
  | _ => none

def bytesOf : List V → Option (List UInt8)
  | [] => some []
  | .i .u8 n :: r => (bytesOf r).map fun l => UInt8.ofNat n.toNat :: l
  | _ :: _ => none

def ofBytes (l : List UInt8) : List V := l.map fun c => .i .u8 c.toNat

/-- The cells of what is put behind a slice. -/
def apCells (m : Sto) (esz : Nat) : V → Option (List V)
  | .s a => if esz = 1 then some (ofBytes a.data.toList) else none
  | v => slCells m esz v

def lenV (m : Sto) : V → Option Nat
  | .s x => some x.size
  | .ns => some 0
  | .sl _ n => some n
  | .ms _ _ n _ => some n
  | .nm => some 0
  | .rm ks _ => some ks.length
  | .mp l => match m l with | some (.map ks _ _) => some ks.length | _ => none
  | _ => none

/-- A slice's length. -/
def lenSl : V → Option Nat
  | .ns => some 0
  | .sl _ n => some n
  | .ms _ _ n _ => some n
  | _ => none

def lenK (m : Sto) : LK → V → Option Nat
  | .s, .s x => some x.size
  | .l, v => lenSl v
  | .c, .ns => some 0
  | .m, .nm => some 0
  | .m, .rm ks _ => some ks.length
  | .m, .mp l => match m l with | some (.map ks _ _) => some ks.length | _ => none
  | _, _ => none

def intOf : V → Option Int
  | .i _ n => some n
  | _ => none

def bnd (e : Env) (o : Option Opd) (d : Nat) : Option Nat :=
  match o with
  | none => some d
  | some x => match x.ev e with
    | .i _ n => if 0 ≤ n then some n.toNat else none
    | _ => none

def max2 : V → V → Option V
  | .i k a, .i _ b => some (.i k (if b > a then b else a))
  | _, _ => none

def min2 : V → V → Option V
  | .i k a, .i _ b => some (.i k (if b < a then b else a))
  | _, _ => none

def foldV (f : V → V → Option V) : V → List V → Option V
  | x, [] => some x
  | x, y :: r => (f x y).bind fun z => foldV f z r

def aptO (o : Option PObj) (T l len : Nat) (a : ByteArray) (slot : Nat) : Option (V × Ws) := match o with
  | some (.tc T' cs) => if T' = T ∧ len ≤ cs.length ∧ len + a.size ≤ BIG then some (.ms slot 0 (len + a.size) 1, [(l, none), (slot, some (.tc T (cs.take len ++ ofBytes a.data.toList)))]) else none
  | _ => none
def aptV (T : Nat) (x y : V) (m : Sto) (slot : Nat) : Option (V × Ws) := match y with
  | .s a => if a.size = 0 then none else match x with
    | .ns => if a.size ≤ BIG then some (.ms slot 0 a.size 1, [(slot, some (.tc T (ofBytes a.data.toList)))]) else none
    | .ms l 0 len 1 => aptO (m l) T l len a slot
    | _ => none
  | _ => none
def peV : V → V → Option Bool
  | .np, .np => some true
  | .p _ _, .np => some false
  | .np, .p _ _ => some false
  | .p l o, .p l' o' => if l = l' ∧ o = o' then some true else none
  | _, _ => none
def tuO (o : Option PObj) (l off : Nat) : Option (V × Ws) := match o with
  | some (.tc _ cs) => if off < cs.length then some (.p l off, []) else none
  | _ => none
def tuV (x : V) (m : Sto) : Option (V × Ws) := match x with
  | .p l off => tuO (m l) l off
  | _ => none
def fuO (o : Option PObj) (Ts : List Nat) (l : Nat) : Option (V × Ws) := match o with
  | some (.tc T cs) => if Ts.contains T = true ∧ cs.length = 2 then some (.p l 0, []) else none
  | _ => none
def fuV (Ts : List Nat) (x : V) (m : Sto) : Option (V × Ws) := match x with
  | .p l 0 => fuO (m l) Ts l
  | _ => none
def sdV (x : V) : Option (V × Ws) := match x with
  | .ms l off len 1 => if 0 < len then some (.p l off, []) else none
  | _ => none
/-- Cells that are bytes. -/
def bytesX : List V → Option (List UInt8)
  | [] => some []
  | .i .u8 n :: r => if 0 ≤ n ∧ n < 256 then (bytesX r).map fun l => UInt8.ofNat n.toNat :: l else none
  | _ :: _ => none
def usO (o : Option PObj) (T l : Nat) (n : Int) : Option (V × Ws) := match o with
  | some (.tc T' cs) => if T' = T ∧ 0 < n ∧ n ≤ cs.length ∧ n ≤ 9223372036854775807 then (bytesX (cs.take n.toNat)).map fun b => (.s ⟨b.toArray⟩, [(l, some (.tr T cs))]) else none
  | some (.tr T' cs) => if T' = T ∧ 0 < n ∧ n ≤ cs.length ∧ n ≤ 9223372036854775807 then (bytesX (cs.take n.toNat)).map fun b => (.s ⟨b.toArray⟩, [(l, some (.tr T cs))]) else none
  | _ => none
def usV (T : Nat) (x y : V) (m : Sto) : Option (V × Ws) := match x, y with
  | .p l 0, .i .i64 n => usO (m l) T l n
  | _, _ => none
def ubD (k : UK) (x y : V) (m : Sto) (slot : Nat) : Option (V × Ws) := match k with
  | .alt T z => some (.p slot 0, [(slot, some (.tc T z))])
  | .apt T => aptV T x y m slot
  | .pe neg => (peV x y).map fun c => (.b (if neg then !c else c), [])
  | .tu => tuV x m
  | .fu Ts => fuV Ts x m
  | .sd => sdV x
  | .us T => usV T x y m

/-- Of an operation that is no call and ends nothing: its value, and what it writes. A thing that it makes lies at 'sl'. -/
def opD (o : POp) (e : Env) (m : Sto) (slot : Nat) : Option (V × Ws) :=
  match o with
  | .mv x => some (x.ev e, [])
  | .pk c a b => match c.ev e with
    | .b t => some (if t then a.ev e else b.ev e, [])
    | _ => none
  | .al z => some (.p slot 0, [(slot, some (.cells z false))])
  | .bx x => if (x.ev e).stor then some (.p slot 0, [(slot, some (.cells (x.ev e).cells false))]) else none
  | .bd z ps => (fill e z ps).map fun cs => (.ag cs, [])
  | .bs esz n z ps =>
    if n = 0 then (match ps with | [] => some (.ns, []) | _ => none) else
    (fill e (zeros z n) ps).map fun cs => (.ms slot 0 n esz, [(slot, some (litO esz cs))])
  | .ld ag n a => match a.ev e with
    | .p l off => match m l with
      | some (.cells cs _) => (getPart ag n cs off).map fun v => (v, [])
      | some (.lit cs) => (getPart ag n cs off).map fun v => (v, [])
      | some (.tc _ cs) => (getPart ag n cs off).map fun v => (v, [])
      | _ => none
    | .rp cs => (getPart ag n cs 0).map fun v => (v, [])
    | _ => none
  | .st n a x => match a.ev e with
    | .p l off => match m l with
      | some (.cells cs false) =>
        if (x.ev e).cells.length = n ∧ off + n ≤ cs.length ∧ (x.ev e).stor then some (.un, [(l, some (.cells (splice cs off (x.ev e).cells) false))]) else none
      | some (.tc T cs) =>
        if (x.ev e).cells.length = n ∧ off + n ≤ cs.length ∧ (x.ev e).stor then some (.un, [(l, some (.tc T (splice cs off (x.ev e).cells)))]) else none
      | _ => none
    | _ => none
  | .nc x => match x.ev e with
    | .p l off => some (.p l off, [])
    | .rp cs => some (.rp cs, [])
    | .fn (.func f) a c => some (.fn (.func f) a c, [])
    | .fn (.yield f) a c => some (.fn (.yield f) a c, [])
    | _ => none
  | .bi op x y => (bin op (x.ev e) (y.ev e)).map fun v => (v, [])
  | .eq neg q x y => (eqQ q (x.ev e) (y.ev e)).map fun c => (.b (if neg then !c else c), [])
  | .un op x => (una op (x.ev e)).map fun v => (v, [])
  | .ci k x => match x.ev e with
    | .i _ n => some (.i k (k.wrap n), [])
    | _ => none
  | .cbs x => ((slCells m 1 (x.ev e)).bind bytesOf).map fun l => (.s ⟨l.toArray⟩, [])
  | .csb x => match x.ev e with
    | .s a => if a.size ≤ BIG then some (.ms slot 0 a.size 1, [(slot, some (.cells (ofBytes a.data.toList) false))]) else none
    | _ => none
  | .mi t x => some (.fc t (x.ev e), [])
  | .mf f a c => match f with
    | .func g => some (.fn (.func g) (a.map (Opd.ev e)) (c.map (Opd.ev e)), [])
    | _ => none
  | .mm => some (.mp slot, [(slot, some (.map [] [] false))])
  | .mk esz z len cap => match len.ev e, cap.ev e with
    | .i .i64 n, .i .i64 c =>
      if 0 ≤ n ∧ n = c ∧ n ≤ BIG then
        if n = 0 then some (.ns, []) else some (.ms slot 0 n.toNat esz, [(slot, some (.cells (zeros z n.toNat) false))])
      else none
    | _, _ => none
  | .ss x lo hi => match x.ev e with
    | .s a => (bnd e hi a.size).bind fun h => (bnd e lo 0).bind fun l => if l ≤ h ∧ h ≤ a.size then some (.s (a.extract l h), []) else none
    | _ => none
  | .sv esz x lo hi mx =>
    match mx with
    | some mx =>   -- x[lo:hi:mx]: nothing can be put behind it only where all are alike
      (bnd e (some mx) 0).bind fun c => (bnd e hi 0).bind fun h => (bnd e lo 0).bind fun l =>
        (lenSl (x.ev e)).bind fun n => if c = l ∧ h = l ∧ hi.isSome ∧ c ≤ n then some (.ns, []) else none
    | none =>
      match x.ev e with
      | .ns => (bnd e hi 0).bind fun h => (bnd e lo 0).bind fun l => if l = 0 ∧ h = 0 then some (.ns, []) else none
      | .sl cs n => (bnd e hi n).bind fun h => (bnd e lo 0).bind fun l =>
        if l ≤ h ∧ h ≤ n ∧ cs.length = n * esz then some (.sl ((cs.drop (l * esz)).take ((h - l) * esz)) (h - l), []) else none
      | .ms b off n esz' => (bnd e hi n).bind fun h => (bnd e lo 0).bind fun l =>
        if l ≤ h ∧ h ≤ n ∧ esz' = esz then
          (if l = 0 then some (.ms b off h esz, []) else if h = l then some (.sl [] 0, []) else some (.ms b (off + l * esz) (h - l) esz, []))
        else none
      | _ => none
  | .sa n esz x lo hi =>
    match x.ev e with
    | .p b off => (bnd e hi n).bind fun h => (bnd e lo 0).bind fun l =>
      match m b with
      | some (.cells cs _) =>
        if l ≤ h ∧ h ≤ n ∧ off + n * esz ≤ cs.length then
          (if l = 0 then some (.ms b off h esz, []) else if h = l then some (.sl [] 0, []) else some (.ms b (off + l * esz) (h - l) esz, []))
        else none
      | _ => none
    | _ => none
  | .fa off x => match x.ev e with
    | .p l o => some (.p l (o + off), [])
    | .rp cs => some (.rp (cs.drop off), [])
    | _ => none
  | .fe ag off n x => match x.ev e with
    | .ag cs => (getPart ag n cs off).map fun v => (v, [])
    | _ => none
  | .ia esz x j => match x.ev e, j.ev e with
    | .sl cs len, .i _ n => if 0 ≤ n ∧ n < len then some (.rp ((cs.drop (n.toNat * esz)).take esz), []) else none
    | .ms l off len esz', .i _ n => if 0 ≤ n ∧ n < len ∧ esz' = esz then some (.p l (off + n.toNat * esz), []) else none
    | _, _ => none
  | .iz len esz x j => match x.ev e, j.ev e with
    | .p l off, .i _ n => if 0 ≤ n ∧ n < len then some (.p l (off + n.toNat * esz), []) else none
    | .rp cs, .i _ n => if 0 ≤ n ∧ n < len then some (.rp (cs.drop (n.toNat * esz)), []) else none
    | _, _ => none
  | .xa ag len esz x j => match x.ev e, j.ev e with
    | .ag cs, .i _ n => if 0 ≤ n ∧ n < len then (getPart ag esz cs (n.toNat * esz)).map fun v => (v, []) else none
    | _, _ => none
  | .xs x j => match x.ev e, j.ev e with
    | .s a, .i _ n => if 0 ≤ n then (a[n.toNat]?).map fun c => (.i .u8 c.toNat, []) else none
    | _, _ => none
  | .lk q z mm k ok =>
    match mm.ev e with
    | .nm => look q z (k.ev e) ok [] []
    | .rm ks vs => look q z (k.ev e) ok ks vs
    | .mp l => match m l with
      | some (.map ks vs _) => look q z (k.ev e) ok ks vs
      | _ => none
    | _ => none
  | .mu q mm k v => match mm.ev e with
    | .mp l => match m l with
      | some (.map ks vs false) => (findIn q (k.ev e) ks).map fun
        | some j => (.un, [(l, some (.map ks (vs.set j (v.ev e)) false))])
        | none => (.un, [(l, some (.map (ks ++ [k.ev e]) (vs ++ [v.ev e]) false))])
      | _ => none
    | _ => none
  | .ta t z x ok => match x.ev e with
    | .fc t' v => if t' = t then some (if ok then .tu [v, .b true] else v, []) else if ok then some (.tu [z, .b false], []) else none
    | .ni => if ok then some (.tu [z, .b false], []) else none
    | _ => none
  | .ex x j => match x.ev e with
    | .tu vs => (vs[j]?).map fun v => (v, [])
    | _ => none
  | .ln k x => (lenK m k (x.ev e)).map fun (n : Nat) => (V.i .i64 (n : Int), [])
  | .ap esz s x =>
    (apCells m esz (x.ev e)).bind fun xs => (lenV m (x.ev e)).bind fun n =>
      match s.ev e with
      | .ns => if n = 0 then some (.ns, []) else if n ≤ BIG then some (.ms slot 0 n esz, [(slot, some (.cells xs false))]) else none
      | .ms l 0 len esz' =>
        if n = 0 then some (.ms l 0 len esz', []) else
        match m l with
        | some (.cells cs false) =>
          if esz' = esz ∧ len * esz ≤ cs.length ∧ len + n ≤ BIG then
            some (.ms slot 0 (len + n) esz, [(l, none), (slot, some (.cells (cs.take (len * esz) ++ xs) false))])
          else none
        | some (.lit cs) =>
          if esz' = esz ∧ 0 < esz ∧ len * esz = cs.length ∧ len + n ≤ BIG then some (.ms slot 0 (len + n) esz, [(slot, some (.cells (cs ++ xs) false))]) else none
        | _ => none
      | _ => none
  | .an esz z s x => match s.ev e, x.ev e with   -- so many noughts put behind no slice
    | .ns, .i .i64 n => if 0 ≤ n ∧ n ≤ BIG then (if n = 0 then some (.ns, []) else some (.ms slot 0 n.toNat esz, [(slot, some (.cells (zeros z n.toNat) false))])) else none
    | _, _ => none
  | .cp esz d x =>
    (apCells m esz (x.ev e)).bind fun xs => (lenV m (x.ev e)).bind fun n =>
      match d.ev e with
      | .ms l off len esz' => match m l with
        | some (.cells cs false) =>
          if esz' = esz ∧ off + len * esz ≤ cs.length then
            some (.i .i64 (min n len : Nat), [(l, some (.cells (splice cs off (xs.take (min n len * esz))) false))])
          else none
        | _ => none
      | .ns => some (.i .i64 0, [])
      | _ => none
  | .mx l => match l with
    | [] => none
    | x :: r => (foldV max2 (x.ev e) (r.map (Opd.ev e))).map fun v => (v, [])
  | .mn l => match l with
    | [] => none
    | x :: r => (foldV min2 (x.ev e) (r.map (Opd.ev e))).map fun v => (v, [])
  | .ub k x y => ubD k (x.ev e) (y.ev e) m slot
  | .ca _ _ | .pa _ | .df _ _ | .rc | .no => none

def refOf : V → List Nat
  | .p l _ => [l]
  | .ms l _ _ _ => [l]
  | .mp l => [l]
  | _ => []

/-- What it touches in the store. -/
def POp.touch (o : POp) (e : Env) : List Nat :=
  match o with
  | .ld _ _ a => refOf (a.ev e)
  | .st _ a _ => refOf (a.ev e)
  | .cbs x => refOf (x.ev e)
  | .sv _ x _ _ _ => refOf (x.ev e)
  | .sa _ _ x _ _ => refOf (x.ev e)
  | .lk _ _ m _ _ => refOf (m.ev e)
  | .mu _ m _ _ => refOf (m.ev e)
  | .ln _ x => refOf (x.ev e)
  | .ap _ s x => refOf (s.ev e) ++ refOf (x.ev e)
  | .cp _ d x => refOf (d.ev e) ++ refOf (x.ev e)
  | .ub _ x y => refOf (x.ev e) ++ refOf (y.ev e)
  | _ => []

def Opd.tm : Opd → List Nat
  | .t n => [n]
  | .c _ => []

def tmO : Option Opd → List Nat
  | none => []
  | some x => x.tm

/-- The slots that it reads. -/
def POp.reads : POp → List Nat
  | .mv x | .bx x | .ld _ _ x | .nc x | .un _ x | .ci _ x | .cbs x | .csb x | .mi _ x | .fa _ x | .fe _ _ _ x | .ta _ _ x _ | .ex x _ | .ln _ x | .pa x => x.tm
  | .pk c a b => c.tm ++ a.tm ++ b.tm
  | .al _ | .mm | .rc | .no => []
  | .bd _ ps | .bs _ _ _ ps => ps.flatMap fun p => p.2.2.tm
  | .st _ a x | .bi _ a x | .eq _ _ a x | .mk _ _ a x | .ia _ a x | .iz _ _ a x | .xa _ _ _ a x | .xs a x | .ap _ a x | .an _ _ a x | .cp _ a x | .ub _ a x => a.tm ++ x.tm
  | .mf _ a c => a.flatMap Opd.tm ++ c.flatMap Opd.tm
  | .ss x lo hi => x.tm ++ tmO lo ++ tmO hi
  | .sv _ x lo hi top => x.tm ++ tmO lo ++ tmO hi ++ tmO top
  | .sa _ _ x lo hi => x.tm ++ tmO lo ++ tmO hi
  | .lk _ _ m k _ => m.tm ++ k.tm
  | .mu _ m k v => m.tm ++ k.tm ++ v.tm
  | .mx l | .mn l => l.flatMap Opd.tm
  | .ca f l | .df f l => f.tm ++ l.flatMap Opd.tm

def POper.reads (p : POper) : List Nat := p.o.reads ++ (match p.g with | none => [] | some (t, _) => [t])

/-- May two operations meet in their slots? -/
def slotsMeet (a b : POper) : Bool :=
  (match a.d with | none => false | some t => b.reads.contains t || b.d == some t) || (match b.d with | none => false | some t => a.reads.contains t)

/-- Which memory an operation may touch: nothing, or it reads, or it writes (or calls). -/
def POp.cls : POp → Nat
  | .ld .. | .cbs .. | .sv .. | .sa .. | .lk .. | .ln .. => 1
  | .st .. | .mu .. | .ap .. | .an .. | .cp .. | .ca .. | .pa .. | .df .. | .rc | .al .. | .bx .. | .bs .. | .csb .. | .mm | .mk .. | .ub .. => 2
  | _ => 0

/-- What it touches in a region of open order: its own number too, where it writes. -/
def POp.tch (o : POp) (e : Env) (x : Nat) : List Nat := if o.cls = 2 then x :: o.touch e else o.touch e

/-! Freezing: a value without the store. The numbers: what was looked into. -/
mutual
def frzW (der : Nat → Option (Bool × List V × List V × List Nat)) : V → Option (V × List Nat)
  | .b x => some (.b x, [])
  | .i k n => some (.i k n, [])
  | .s x => some (.s x, [])
  | .np => some (.np, [])
  | .p l off => (der l).bind fun r => if r.1 then none else some (.rp (r.2.1.drop off), l :: r.2.2.2)
  | .rp cs => some (.rp cs, [])
  | .ns => some (.sl [] 0, [])
  | .sl cs n => some (.sl cs n, [])
  | .ms l off n esz => (der l).bind fun r => if r.1 = false ∧ off + n * esz ≤ r.2.1.length then some (.sl ((r.2.1.drop off).take (n * esz)) n, l :: r.2.2.2) else none
  | .nm => some (.rm [] [], [])
  | .mp l => (der l).bind fun r => if r.1 then some (.rm r.2.1 r.2.2.1, l :: r.2.2.2) else none
  | .rm ks vs => some (.rm ks vs, [])
  | .nf => some (.nf, [])
  | .fn f a c => match f with
    | .func g => (frzL der a).bind fun x => (frzL der c).bind fun y => some (.fn (.func g) x.1 y.1, x.2 ++ y.2)
    | _ => none
  | .ni => some (.ni, [])
  | .fc t v => (frzW der v).bind fun x => some (.fc t x.1, x.2)
  | .ag cs => (frzL der cs).bind fun x => some (.ag x.1, x.2)
  | .tu vs => (frzL der vs).bind fun x => some (.tu x.1, x.2)
  | .un => none
def frzL (der : Nat → Option (Bool × List V × List V × List Nat)) : List V → Option (List V × List Nat)
  | [] => some ([], [])
  | v :: r => (frzW der v).bind fun x => (frzL der r).bind fun y => some (x.1 :: y.1, x.2 ++ y.2)
end

/-- What lies at a place of the store, frozen: cells, or keys and values. -/
def der (m : Sto) : Nat → Nat → Option (Bool × List V × List V × List Nat)
  | 0, _ => none
  | d + 1, l => match m l with
    | some (.cells cs _) => (frzL (der m d) cs).bind fun x => some (false, x.1, [], x.2)
    | some (.lit cs) => (frzL (der m d) cs).bind fun x => some (false, x.1, [], x.2)
    | some (.map ks vs _) => (frzL (der m d) ks).bind fun x => (frzL (der m d) vs).bind fun y => some (true, x.1, y.1, x.2 ++ y.2)
    | _ => none

def DEEP : Nat := 40
def freeze (m : Sto) (v : V) : Option (V × List Nat) := frzW (der m DEEP) v
def freezeL (m : Sto) (l : List V) : Option (List V × List Nat) := frzL (der m DEEP) l

/-- Nothing in a (frozen) value lies in memory. -/
def V.sc1 : V → Bool
  | .b _ | .i _ _ | .s _ | .np | .nf | .ni | .sl [] 0 => true
  | _ => false
def V.sc2 : V → Bool
  | .ag cs => cs.all V.sc1
  | x => x.sc1
def V.scal : V → Bool
  | .tu cs => cs.all V.sc2
  | x => x.sc2

def markRo (m : Sto) : List Nat → Sto
  | [] => m
  | l :: r => markRo (m.set l (match m l with
    | some (.cells cs _) => some (.cells cs true)
    | some (.map ks vs _) => some (.map ks vs true)
    | some (.lit cs) => some (.cells cs true)
    | o => o)) r

/-- What tells of nothing in memory, and nothing that is read alone. -/
def V.lone : V → Bool
  | .b _ | .i _ _ | .s _ | .np | .ns | .nf | .ni => true
  | _ => false
/-- Such things, and one list of such things made anew: it comes to lie at x. -/
def outL (m : Sto) (x : Nat) : List V → Option (List V × Option (Nat × List V))
  | [] => some ([], none)
  | c :: r => match c with
    | .ms l off len esz => match m l with
      | some (.cells cs false) => if cs.all V.lone && r.all V.lone then some (.ms x off len esz :: r, some (l, cs)) else none
      | _ => none
    | c => if c.lone then (outL m x r).map fun p => (c :: p.1, p.2) else none
def outV (m : Sto) (x : Nat) : V → Option (V × Option (Nat × List V))
  | .tu cs => (outL m x cs).map fun p => (.tu p.1, p.2)
  | _ => none
def outM (m : Sto) (x : Nat) : Option (Nat × List V) → Sto
  | none => m
  | some p => m.set x (some (.cells p.2 false))
def outX (x : Nat) : Option (Nat × List V) → Nat
  | none => x
  | some _ => x + 1
/-- A thing, read-only. -/
def roO : Option PObj → Option PObj
  | some (.cells cs _) => some (.cells cs true)
  | some (.map ks vs _) => some (.map ks vs true)
  | some (.lit cs) => some (.cells cs true)
  | o => o
/-- What a closed call that answers this makes read-only. -/
def mkWs (w : V) (m : Sto) (ids : List Nat) : Ws := if w.scal then [] else ids.map fun l => (l, roO (m l))

/-- The store, of some things alone. -/
def Sto.only (m : Sto) (ids : List Nat) : Sto := fun l => if ids.contains l then m l else none

/-- What a call in a region of open order comes to: its value, what it writes, what it touches, the next number. -/
structure QR where
  v : V
  ws : Ws
  ids : List Nat
  x : Nat
  pan : Bool

mutual
/-- What a value tells of places of the store lies at a number or above. -/
def V.over (x : Nat) : V → Bool
  | .p l _ => decide (x ≤ l)
  | .ms l _ _ _ => decide (x ≤ l)
  | .mp l => decide (x ≤ l)
  | .fn (.func _) a c => overL x a && overL x c
  | .fn _ _ _ => false
  | .fc _ v => v.over x
  | .ag cs => overL x cs
  | .tu cs => overL x cs
  | _ => true
def overL (x : Nat) : List V → Bool
  | [] => true
  | c :: cs => c.over x && overL x cs
end
/-- A thing that a call has made: it can be written to, and tells of nothing older. -/
def ownO (x : Nat) : Option PObj → Bool
  | none => true
  | some (.cells cs false) => overL x cs
  | some (.map ks vs false) => overL x ks && overL x vs
  | _ => false
mutual
/-- What a value tells of places of the store are of some places. -/
def V.inn (S : Nat → Bool) : V → Bool
  | .p l _ => S l
  | .ms l _ _ _ => S l
  | .mp l => S l
  | .fn (.func _) a c => innL S a && innL S c
  | .fn _ _ _ => false
  | .fc _ v => v.inn S
  | .ag cs => innL S cs
  | .tu cs => innL S cs
  | _ => true
def innL (S : Nat → Bool) : List V → Bool
  | [] => true
  | c :: cs => c.inn S && innL S cs
end
mutual
/-- Is there a nil slice in it? -/
def V.nsy : V → Bool
  | .ns => true
  | .fn _ a c => nsyL a || nsyL c
  | .fc _ v => v.nsy
  | .ag cs => nsyL cs
  | .tu cs => nsyL cs
  | _ => false
def nsyL : List V → Bool
  | [] => false
  | c :: cs => c.nsy || nsyL cs
end
/-- A thing that can be written to, and tells of some places alone. -/
def innO (S : Nat → Bool) : Option PObj → Bool
  | none => true
  | some (.cells cs false) => innL S cs
  | some (.map ks vs false) => innL S ks && innL S vs
  | _ => false
/-- What lies at some numbers. -/
def freshWs (m : Sto) (x k : Nat) : Ws := (List.range k).map fun i => (x + i, m (x + i))

/-- How a call ends. -/
inductive CR where
  | ret (v : V)
  | pan (v : V)

def CR.val : CR → V
  | .ret v => v
  | .pan v => v
def CR.isPan : CR → Bool
  | .ret _ => false
  | .pan _ => true

/-- Some things, and what is new. -/
def orNew (R : List Nat) (x : Nat) (l : Nat) : Bool := R.contains l || decide (x ≤ l)
/-- Some things tell of each other alone. -/
def reachOK (as : List V) (R : List Nat) (m : Sto) (x : Nat) : Bool := innL (fun l => R.contains l) as && R.all fun l => decide (l < x) && innO (fun l => R.contains l) (m l)
/-- What a call that had some things to itself comes to. -/
def reachR (R : List Nat) (x : Nat) (r : CR × Sto × Nat × Option V) : Option QR :=
  if r.1.val.inn (orNew R x) && (R.all fun l => innO (orNew R x) (r.2.1 l)) && (freshWs r.2.1 x (r.2.2.1 - x)).all (fun p => innO (orNew R x) p.2) then
      some ⟨r.1.val, (R.map fun l => (l, r.2.1 l)) ++ freshWs r.2.1 x (r.2.2.1 - x), ((R.map fun l => (l, r.2.1 l)) ++ freshWs r.2.1 x (r.2.2.1 - x)).map Prod.fst, x + (r.2.2.1 - x), r.1.isPan⟩ else none

inductive D where
  | mark (l : Nat)
  | call (f : V) (args : List V)

inductive RVar where
  | t (n : Nat)
  | c (a : Nat) (ag : Bool) (n : Nat)

structure PFun where
  code : PCode
  rs : List RVar

structure Ctx where
  fns : Nat → Option PFun
  opn : Nat → Bool
  /-- functions whose contract is proved by hand: their run, of an argument list, in a store; a thing that they make lies at the number -/
  prim : Nat → Option (List V → Sto → Nat → Option (V × Ws))
  /-- functions that run in their caller's memory, whose value is frozen when they return -/
  frz : Nat → Bool := fun _ => false

structure S where
  e : Env
  m : Sto
  x : Nat
  ds : List D
  rv : Option V
  /-- in a round of a loop over a function -/
  rd : Option Nat

/-- A round's loop is there. -/
def inRound (s : S) : Bool :=
  match s.rd with
  | none => true
  | some l => match s.m l with | some (.loop _) => true | _ => false

def wanted (g : Option (Nat × Bool)) (e : Env) : Option Bool :=
  match g with
  | none => some true
  | some (t, w) => match e t with | .b c => some (c == w) | .tu [] => some false | _ => none

def S.put (s : S) (d : Option Nat) (v : V) : S :=
  match d with
  | some t => { s with e := s.e.set t v }
  | none => s

def resV (e : Env) (m : Sto) : RVar → Option V
  | .t n => some (e n)
  | .c a ag n => match e a with
    | .p l off => match m l with
      | some (.cells cs _) => getPart ag n cs off
      | some (.lit cs) => getPart ag n cs off
      | _ => none
    | _ => none

def resL (e : Env) (m : Sto) : List RVar → Option (List V)
  | [] => some []
  | r :: rs => (resV e m r).bind fun v => (resL e m rs).map fun l => v :: l

def result (e : Env) (m : Sto) (rs : List RVar) : Option V :=
  (resL e m rs).map fun l => match l with | [v] => v | l => .tu l

def envOf (args : List V) : Env := fun j => args.getD j .un

def setAll (e : Env) : List Nat → List V → Option Env
  | [], [] => some e
  | t :: ts, v :: vs => setAll (e.set t v) ts vs
  | _, _ => none

/-- What an operation touches, and what of it it writes; what it told, if it is a load. -/
abbrev Tch := List Nat × List Nat × Option (V × Bool × Nat × V) × Ws
mutual
/-- Are two values surely the same? -/
def eqvV : V → V → Bool
  | .b a, .b c => a == c
  | .i k n, .i k' n' => decide (k = k') && decide (n = n')
  | .s a, .s c => decide (a = c)
  | .np, .np => true
  | .p l o, .p l' o' => decide (l = l') && decide (o = o')
  | .rp cs, .rp cs' => eqvL cs cs'
  | .ns, .ns => true
  | .sl cs n, .sl cs' n' => decide (n = n') && eqvL cs cs'
  | .ms l o n k, .ms l' o' n' k' => decide (l = l') && decide (o = o') && decide (n = n') && decide (k = k')
  | .nm, .nm => true
  | .mp l, .mp l' => decide (l = l')
  | .nf, .nf => true
  | .ni, .ni => true
  | .ag cs, .ag cs' => eqvL cs cs'
  | _, _ => false
def eqvL : List V → List V → Bool
  | [], [] => true
  | a :: r, b :: s => eqvV a b && eqvL r s
  | _, _ => false
end
def ldI (o : POp) (e : Env) (v : V) : Option (V × Bool × Nat × V) := match o with | .ld ag n a => some (a.ev e, ag, n, v) | _ => none
def keepO (o : Option PObj) (ag : Bool) (n off : Nat) (v : V) : Bool := match o with
  | some (.cells cs _) => (match getPart ag n cs off with | some u => eqvV u v | none => false)
  | _ => false
/-- Does a load tell the same behind what is written? -/
def immB (i : Option (V × Bool × Nat × V)) (ws : Ws) : Bool := match i with
  | some (.p l off, ag, n, v) => ws.all fun w => if w.1 = l then keepO w.2 ag n off v else true
  | _ => false
def apart2 (a b : Tch) : Bool := (a.2.1.all fun l => !(b.1.contains l)) && (b.2.1.all fun l => !(a.1.contains l))
/-- Do operations all read a slot, or make but a new thing? -/
def lateOk (d : Option Nat) (r : List POper) : Bool := r.all fun p => (match d with | none => false | some t => p.reads.contains t) || (match p.o, p.g with | .al _, none => true | _, _ => false)
/-- Did operations write nothing? -/
def noWs (ts : List Tch) : Bool := ts.all fun t => t.2.1.isEmpty
/-- Do operations of open order leave alone what the others touch? -/
def apartAll (ts : List Tch) (prs : List (Nat × Nat)) : Bool :=
  prs.all fun (i, j) => if apart2 (ts.getD i ([], [], none, [])) (ts.getD j ([], [], none, [])) then true else immB (ts.getD i ([], [], none, [])).2.2.1 (ts.getD j ([], [], none, [])).2.2.2

mutual
def exec (C : Ctx) : Nat → PCode → S → Option (X × S)
  | 0, _, _ => none
  | n + 1, c, s =>
    match c with
    | .skip => some (.nor, s)
    | .reg segs => runSegs C n segs s
    | .seq a b => (exec C n a s).bind fun r => match r.1 with
      | .nor => exec C n b r.2
      | x => some (x, r.2)
    | .cond c a b => match c.ev s.e with
      | .b t => exec C n (if t then a else b) s
      | _ => none
    | .block id c => (exec C n c s).bind fun r => match r.1 with
      | .exit id' => some (if id' = id then .nor else .exit id', r.2)
      | x => some (x, r.2)
    | .loop c => (exec C n c s).bind fun r => match r.1 with
      | .nor => exec C n (.loop c) r.2
      | x => some (x, r.2)
    | .scope c => exec C n c s
    | .exit id => some (.exit id, s)
    | .ret => some (.ret, s)
    | .rf f ps asg body =>
      let dl := s.x
      let ll := s.x + 1
      let m := (if s.rd.isSome then s.m else s.m.set dl (some .dfr)).set ll (some (.loop ⟨s.e, ps, asg, body, .ready, none⟩))
      let ds := if s.rd.isSome then s.ds else .mark dl :: s.ds
      if !inRound s then none else
      (callV C n (f.ev s.e) [.fn (.yield ll) [] []] m (s.x + 2)).bind fun r => match r.1 with
        | .pan v => some (.pan v, { s with m := r.2.1, x := r.2.2, ds := ds })
        | .ret _ => match r.2.1 ll with
          | some (.loop q) =>
            if q.st = .busy then none else
            some (match q.pend with | none => .nor | some x => x, { s with m := r.2.1.set ll none, x := r.2.2, ds := ds })
          | _ => none

def runSegs (C : Ctx) : Nat → List Seg → S → Option (X × S)
  | 0, _, _ => none
  | _ + 1, [], s => some (.nor, s)
  | n + 1, .seq ops :: r, s => (runOps C n ops s).bind fun q => match q.1 with
    | .nor => runSegs C n r q.2
    | x => some (x, q.2)
  | n + 1, .any ops prs :: r, s => (runAny C n ops s []).bind fun q => match q.1 with
    | .nor => if apartAll q.2.2 prs then runSegs C n r q.2.1 else none
    | x => some (x, q.2.1)

def runOps (C : Ctx) : Nat → List POper → S → Option (X × S)
  | 0, _, _ => none
  | _ + 1, [], s => some (.nor, s)
  | n + 1, p :: r, s =>
    match wanted p.g s.e with
    | none => none
    | some false => runOps C n r (s.put p.d (.tu []))
    | some true =>
      match p.o with
      | .ca f args => (callV C n (f.ev s.e) (args.map (Opd.ev s.e)) s.m s.x).bind fun q => match q.1 with
        | .ret v => runOps C n r ({ s with m := q.2.1, x := q.2.2 }.put p.d v)
        | .pan v => some (.pan v, { s with m := q.2.1, x := q.2.2 })
      | .pa x => match x.ev s.e with
        | .fc t v => some (.pan (.fc t v), s)
        | _ => none
      | .df f args => match f.ev s.e with
        | .fn (.func g) a c => if s.rd.isSome then none else runOps C n r ({ s with ds := .call (.fn (.func g) a c) (args.map (Opd.ev s.e)) :: s.ds }.put p.d (.tu []))
        | _ => none
      | .rc => match s.rv with
        | some v => runOps C n r ({ s with rv := none }.put p.d v)
        | none => none
      | o => (opD o s.e s.m s.x).bind fun q => runOps C n r ({ s with m := s.m.app q.2, x := s.x + 1 }.put p.d q.1)

/-- Operations of open order, in the text's; what each touches. -/
def runAny (C : Ctx) : Nat → List POper → S → List Tch → Option (X × S × List Tch)
  | 0, _, _, _ => none
  | _ + 1, [], s, ts => some (.nor, s, ts.reverse)
  | n + 1, p :: r, s, ts =>
    match wanted p.g s.e with
    | none => none
    | some false => runAny C n r (s.put p.d (.tu [])) (([], [], none, []) :: ts)
    | some true =>
      match p.o with
      | .ca f args => (callQ C n (f.ev s.e) (args.map (Opd.ev s.e)) s.m s.x).bind fun q =>
          if q.pan then (if noWs ts && lateOk p.d r then some (.pan q.v, { s with e := fun _ => .un, m := s.m.app q.ws, x := q.x + r.length }, []) else none)
          else runAny C n r ({ s with m := s.m.app q.ws, x := q.x }.put p.d q.v) ((q.ids, q.ws.map Prod.fst, none, q.ws) :: ts)
      | .pa _ | .df _ _ | .rc => none
      | o => (opD o s.e s.m s.x).bind fun q => runAny C n r ({ s with m := s.m.app q.2, x := s.x + 1 }.put p.d q.1) ((o.tch s.e s.x, q.2.map Prod.fst, ldI o s.e q.1, q.2) :: ts)

/-- A call in a region of open order: closed, a primitive, or in what it reaches alone. -/
def callQ (C : Ctx) : Nat → V → List V → Sto → Nat → Option QR
  | 0, _, _, _, _ => none
  | n + 1, f, args, m, x =>
    match f with
    | .fn (.func g) first cap =>
      let as := first ++ args ++ cap
      match C.prim g with
      | some h => (h as m x).map fun r => ⟨r.1, r.2, x :: as.flatMap refOf, x + 1, false⟩
      | none =>
        if C.opn g then
          (freezeL m as).bind fun a => if a.2 ≠ [] ∨ nsyL as = true ∨ C.frz g = true then (if C.frz g || !reachOK as a.2 m x then none else (enter C n g as (m.only a.2) x none).bind (reachR a.2 x)) else (enter C n g a.1 (fun _ => none) x none).bind fun r => match r.1 with
            | .pan _ => none
            | .ret v => if v.over x ∧ (freshWs r.2.1 x (r.2.2.1 - x)).all (fun p => ownO x p.2) then
                some ⟨v, freshWs r.2.1 x (r.2.2.1 - x), (freshWs r.2.1 x (r.2.2.1 - x)).map Prod.fst, x + (r.2.2.1 - x), false⟩ else none
        else
        (freezeL m as).bind fun a => (enter C n g a.1 (fun _ => none) 0 none).bind fun r => match r.1 with
          | .pan _ => none
          | .ret v => (freeze r.2.1 v).bind fun w => some ⟨w.1, mkWs w.1 m a.2, a.2, x, false⟩
    | _ => none

/-- A function value called. -/
def callV (C : Ctx) : Nat → V → List V → Sto → Nat → Option (CR × Sto × Nat)
  | 0, _, _, _, _ => none
  | n + 1, f, args, m, x =>
    match f with
    | .fn (.func g) first cap =>
      let as := first ++ args ++ cap
      match C.prim g with
      | some h => (h as m x).map fun r => (.ret r.1, m.app r.2, x + 1)
      | none =>
        match (if C.opn g then none else freezeL m as) with
        | none => (enter C n g as m x none).bind fun r => match r.1 with
          | .pan v => some (.pan v, r.2.1, r.2.2.1)
          | .ret v => if C.frz g then (freeze r.2.1 v).map fun w => (.ret w.1, if w.1.scal then r.2.1 else markRo r.2.1 w.2, r.2.2.1) else some (.ret v, r.2.1, r.2.2.1)
        | some a => (enter C n g a.1 (fun _ => none) 0 none).bind fun r => match r.1 with
          | .pan v => (freeze r.2.1 v).bind fun w => if w.1.scal then some (.pan w.1, m, x) else none
          | .ret v => if C.frz g then (outV r.2.1 x v).map fun w => (.ret w.1, outM m x w.2, outX x w.2) else (freeze r.2.1 v).bind fun w => some (.ret w.1, if w.1.scal then m else markRo m a.2, x)
    | .fn (.yield ll) [] [] =>
      match m ll with
      | some (.loop q) =>
        if q.st = .ready then
          (setAll q.e q.ps args).bind fun e =>
          (exec C n q.asg ⟨e, m, x, [], none, some ll⟩).bind fun r => match r.1 with
            | .nor => match r.2.m ll with
              | some (.loop q') =>
                if q'.st ≠ .ready then none else
                (exec C n q.body { r.2 with m := r.2.m.set ll (some (.loop { q' with st := .busy })) }).bind fun z =>
                  if !z.2.ds.isEmpty then none else
                  match z.1, z.2.m ll with
                  | .pan v, _ => some (.pan v, z.2.m, z.2.x)
                  | .nor, some (.loop q'') => some (.ret (.b true), z.2.m.set ll (some (.loop { q'' with st := .ready, pend := none })), z.2.x)
                  | y, some (.loop q'') => some (.ret (.b false), z.2.m.set ll (some (.loop { q'' with st := .done, pend := some y })), z.2.x)
                  | _, _ => none
              | _ => none
            | _ => none
        else none
      | _ => none
    | _ => none

/-- A function's body run, and what it has deferred. 'rv': what 'recover' would tell. The last: what it left to be recovered. -/
def enter (C : Ctx) : Nat → Nat → List V → Sto → Nat → Option V → Option (CR × Sto × Nat × Option V)
  | 0, _, _, _, _, _ => none
  | n + 1, g, as, m, x, rv =>
    (C.fns g).bind fun F => (exec C n F.code ⟨envOf as, m, x, [], rv, none⟩).bind fun r =>
      match r.1 with
      | .pan v => leave C n F r.2 (some v)
      | .nor => leave C n F r.2 none
      | .ret => leave C n F r.2 none
      | .exit _ => none

/-- What a frame does that returns, or (a value) is in panic. -/
def leave (C : Ctx) : Nat → PFun → S → Option V → Option (CR × Sto × Nat × Option V)
  | 0, _, _, _ => none
  | n + 1, F, s, pn =>
    match s.ds with
    | [] => match pn with
      | some v => some (.pan v, s.m, s.x, s.rv)
      | none => (result s.e s.m F.rs).map fun v => (.ret v, s.m, s.x, s.rv)
    | .mark l :: r => match s.m l with
      | some .dfr => leave C n F { s with m := s.m.set l none, ds := r } pn
      | _ => none
    | .call f args :: r =>
      match f with
      | .fn (.func g) first cap =>
        (enter C n g (first ++ args ++ cap) s.m s.x (some (pn.getD .ni))).bind fun q => match q.1 with
          | .pan _ => none
          | .ret _ => leave C n F { s with m := q.2.1, x := q.2.2.1, ds := r } (if q.2.2.2.isNone then none else pn)
      | _ => none
end

/-! What a closed call makes read-only. -/
theorem roO_roO (o : Option PObj) : roO (roO o) = roO o := by
  cases o with
  | none => rfl
  | some o => cases o <;> rfl
theorem markRo_at : ∀ (ids : List Nat) (m : Sto) (j : Nat), markRo m ids j = if j ∈ ids then roO (m j) else m j
  | [], m, j => by simp [markRo]
  | l :: r, m, j => by
    have e : markRo m (l :: r) = markRo (m.set l (roO (m l))) r := rfl
    rw [e, markRo_at r]
    unfold Sto.set
    by_cases h : j = l
    · subst h
      simp only [if_true, List.mem_cons, true_or]
      split
      · exact roO_roO _
      · rfl
    · simp [h]
theorem app_ro_at (f : Nat → Option PObj) : ∀ (ids : List Nat) (m : Sto) (j : Nat), (m.app (ids.map fun l => (l, f l))) j = if j ∈ ids then f j else m j
  | [], m, j => by simp [Sto.app]
  | l :: r, m, j => by
    have e : m.app ((l :: r).map fun l => (l, f l)) = (m.set l (f l)).app (r.map fun l => (l, f l)) := rfl
    rw [e, app_ro_at f r]
    unfold Sto.set
    by_cases h : j = l
    · subst h
      simp only [if_true, List.mem_cons, true_or]
      split <;> rfl
    · simp [h]
theorem app_mkWs (w : V) (m : Sto) (ids : List Nat) : m.app (mkWs w m ids) = if w.scal then m else markRo m ids := by
  unfold mkWs
  split
  · rfl
  · funext j
    rw [app_ro_at (fun l => roO (m l)), markRo_at]
end Pi


/- What a pure value says of a value of the machine; what a pure store says of the machine's memory. -/
namespace Pi
open Go (IntKind TypeId FuncId Fn BinOp UnOp LoopState Value Addr World Program undef)

abbrev Rho := Nat → Option (Nat × Nat)
abbrev Ro := Nat → Option Go.Obj

def FR (h : Rho) (f f' : Fn) : Prop :=
  match f with
  | .yield l => ∃ b n, h l = some (b, n) ∧ f' = .yield b
  | f => f' = f

/-- Each of some values fills one cell. -/
def OneL (l : List Value) : Prop := ∀ v ∈ l, v.oneCell' = true

theorem OneL.all {l : List Value} (h : OneL l) (o k : Nat) : OneL ((l.drop o).take k) := fun u hu => h u (List.mem_of_mem_drop (List.mem_of_mem_take hu))
theorem OneL.part {l : List Value} {o k : Nat} (h : OneL ((l.drop o).take k)) {d j : Nat} (hj : j ≤ k - d) : OneL ((l.drop (o + d)).take j) := by
  intro u hu
  refine h u ?_
  have h1 : u ∈ ((l.drop o).take k).drop d := by
    rw [List.drop_take, List.drop_drop]
    rw [show (l.drop (o + d)).take j = ((l.drop (o + d)).take (k - d)).take j by rw [List.take_take, Nat.min_eq_left hj]] at hu
    exact List.mem_of_mem_take hu
  exact List.mem_of_mem_drop h1

/-- Two numbers as a key, a function as what it names. -/
abbrev P3 := Int × Int × Nat
def keyV (p : P3) : V := .ag [.i .i64 p.1, .i .i64 p.2.1]
def fnV (p : P3) : V := .fn (.func p.2.2) [] []
/-- A map whose entries stand in some order. -/
def MapO (ks vs : List V) (es : Array Go.MapEntry) : Prop := ∃ L L' : List P3, L.Perm L' ∧ (L'.map fun p => (p.1, p.2.1)).Nodup ∧ ks = L'.map keyV ∧ vs = L'.map fnV ∧
  es.toList.map (·.key) = L.map (fun p => Value.agg #[.int .i64 p.1, .int .i64 p.2.1]) ∧ es.toList.map (·.val) = L.map (fun p => Value.func (.func p.2.2) #[] #[])
mutual
def VR (ro : Ro) : V → Rho → Value → Prop
  | .b x, _, v => v = .bool x
  | .i k n, _, v => v = .int k n
  | .s x, _, v => v = .string x
  | .np, _, v => v = .pointer none
  | .p l off, h, v => ∃ b n, h l = some (b, n) ∧ v = .pointer (some ⟨b, off, none⟩)
  | .rp cs, _, v => ∃ b o arr e f, v = .pointer (some ⟨b, o, none⟩) ∧ ro b = some (.cells arr e f) ∧ OneL ((arr.toList.drop o).take cs.length) ∧ PR ro cs (fun _ => none) (arr.toList.drop o)
  | .ns, _, v => ∃ a, v = .slice a 0 0
  | .sl cs len, _, v => ∃ a cap, v = .slice a len cap ∧ len ≤ cap ∧ ((cs = [] ∧ len = 0) ∨
      ∃ b o arr e f, a = some ⟨b, o, none⟩ ∧ ro b = some (.cells arr e f) ∧ OneL ((arr.toList.drop o).take cs.length) ∧ PR ro cs (fun _ => none) (arr.toList.drop o))
  | .ms l off len esz, h, v => ∃ b n cap, h l = some (b, n) ∧ v = .slice (some ⟨b, off, none⟩) len cap ∧ len ≤ cap ∧ off + cap * esz ≤ n
  | .nm, _, v => v = .map none
  | .mp l, h, v => ∃ b n, h l = some (b, n) ∧ v = .map (some b)
  | .rm ks vs, _, v => (ks = [] ∧ vs = [] ∧ v = .map none) ∨ (∃ b es ck, v = .map (some b) ∧ ro b = some (.map es ck) ∧
      ks.length = es.size ∧ vs.length = es.size ∧ PR ro ks (fun _ => none) (es.toList.map (·.key)) ∧ PR ro vs (fun _ => none) (es.toList.map (·.val))) ∨
      ∃ b es ck, v = .map (some b) ∧ ro b = some (.map es ck) ∧ MapO ks vs es
  | .nf, _, v => v = .nilFunc
  | .fn f a c, h, v => ∃ f' a' c', v = .func f' a' c' ∧ FR h f f' ∧ a.length = a'.size ∧ c.length = c'.size ∧ PR ro a h a'.toList ∧ PR ro c h c'.toList
  | .ni, _, v => v = .nilIface
  | .fc t x, h, v => ∃ x', v = .iface t x' ∧ VR ro x h x'
  | .ag cs, h, v => ∃ arr, v = .agg arr ∧ cs.length = arr.size ∧ OneL arr.toList ∧ PR ro cs h arr.toList
  | .tu cs, h, v => ∃ arr, v = .tuple arr ∧ cs.length = arr.size ∧ PR ro cs h arr.toList
  | .un, _, _ => True
/-- The first of some values are these. -/
def PR (ro : Ro) : List V → Rho → List Value → Prop
  | [], _, _ => True
  | c :: cs, h, l => ∃ v r, l = v :: r ∧ VR ro c h v ∧ PR ro cs h r
end

def RhoE (h h' : Rho) : Prop := ∀ l r, h l = some r → h' l = some r
def RoE (a b : Ro) : Prop := ∀ l r, a l = some r → b l = some r
theorem RhoE.refl (h : Rho) : RhoE h h := fun _ _ e => e
theorem RoE.refl (h : Ro) : RoE h h := fun _ _ e => e
theorem RhoE.trans {a b c : Rho} (h : RhoE a b) (k : RhoE b c) : RhoE a c := fun l r e => k l r (h l r e)
theorem RoE.trans {a b c : Ro} (h : RoE a b) (k : RoE b c) : RoE a c := fun l r e => k l r (h l r e)

theorem FR.mono {h h' : Rho} {f f' : Fn} (he : RhoE h h') (r : FR h f f') : FR h' f f' := by
  unfold FR at *
  split at r <;> first | exact r | (obtain ⟨b, n, e, e'⟩ := r; exact ⟨b, n, he _ _ e, e'⟩)

mutual
theorem VR.mono {ro ro' : Ro} (hr : RoE ro ro') : ∀ (x : V) {h h' : Rho} {v : Value}, RhoE h h' → VR ro x h v → VR ro' x h' v
  | .b _, _, _, _, _, r => by simpa [VR] using r
  | .i _ _, _, _, _, _, r => by simpa [VR] using r
  | .s _, _, _, _, _, r => by simpa [VR] using r
  | .np, _, _, _, _, r => by simpa [VR] using r
  | .p _ _, _, _, _, he, r => by
    simp only [VR] at *
    obtain ⟨b, n, e, e'⟩ := r
    exact ⟨b, n, he _ _ e, e'⟩
  | .rp cs, _, _, _, _, r => by
    simp only [VR] at *
    obtain ⟨b, o, arr, e, f, h1, h2, h4, h3⟩ := r
    exact ⟨b, o, arr, e, f, h1, hr _ _ h2, h4, PR.mono hr cs (RhoE.refl _) h3⟩
  | .ns, _, _, _, _, r => by simpa [VR] using r
  | .sl cs len, _, _, _, _, r => by
    simp only [VR] at *
    obtain ⟨a, cap, h1, h2, h3⟩ := r
    refine ⟨a, cap, h1, h2, ?_⟩
    rcases h3 with h3 | ⟨b, o, arr, e, f, h3, h4, h6, h5⟩
    · exact .inl h3
    · exact .inr ⟨b, o, arr, e, f, h3, hr _ _ h4, h6, PR.mono hr cs (RhoE.refl _) h5⟩
  | .ms _ _ _ _, _, _, _, he, r => by
    simp only [VR] at *
    obtain ⟨b, n, cap, e, r⟩ := r
    exact ⟨b, n, cap, he _ _ e, r⟩
  | .nm, _, _, _, _, r => by simpa [VR] using r
  | .mp _, _, _, _, he, r => by
    simp only [VR] at *
    obtain ⟨b, n, e, r⟩ := r
    exact ⟨b, n, he _ _ e, r⟩
  | .rm ks vs, _, _, _, _, r => by
    simp only [VR] at *
    rcases r with r | ⟨b, es, ck, h1, h2, h3, h4, h5, h6⟩ | ⟨b, es, ck, h1, h2, h3⟩
    · exact .inl r
    · exact .inr (.inl ⟨b, es, ck, h1, hr _ _ h2, h3, h4, PR.mono hr ks (RhoE.refl _) h5, PR.mono hr vs (RhoE.refl _) h6⟩)
    · exact .inr (.inr ⟨b, es, ck, h1, hr _ _ h2, h3⟩)
  | .nf, _, _, _, _, r => by simpa [VR] using r
  | .fn f a c, _, _, _, he, r => by
    simp only [VR] at *
    obtain ⟨f', a', c', h1, h2, h3, h4, h5, h6⟩ := r
    exact ⟨f', a', c', h1, h2.mono he, h3, h4, PR.mono hr a he h5, PR.mono hr c he h6⟩
  | .ni, _, _, _, _, r => by simpa [VR] using r
  | .fc t x, _, _, _, he, r => by
    simp only [VR] at *
    obtain ⟨x', h1, h2⟩ := r
    exact ⟨x', h1, VR.mono hr x he h2⟩
  | .ag cs, _, _, _, he, r => by
    simp only [VR] at *
    obtain ⟨arr, h1, h2, h4, h3⟩ := r
    exact ⟨arr, h1, h2, h4, PR.mono hr cs he h3⟩
  | .tu cs, _, _, _, he, r => by
    simp only [VR] at *
    obtain ⟨arr, h1, h2, h3⟩ := r
    exact ⟨arr, h1, h2, PR.mono hr cs he h3⟩
  | .un, _, _, _, _, r => by simp [VR]
theorem PR.mono {ro ro' : Ro} (hr : RoE ro ro') : ∀ (x : List V) {h h' : Rho} {v : List Value}, RhoE h h' → PR ro x h v → PR ro' x h' v
  | [], _, _, _, _, _ => by simp [PR]
  | c :: cs, _, _, _, he, r => by
    simp only [PR] at *
    obtain ⟨v, r', h1, h2, h3⟩ := r
    exact ⟨v, r', h1, VR.mono hr c he h2, PR.mono hr cs he h3⟩
end

/-- What is said of some values, place by place. -/
theorem PR_iff {ro : Ro} {h : Rho} : ∀ (cs : List V) (l : List Value), PR ro cs h l ↔ cs.length ≤ l.length ∧ ∀ (i : Nat) c v, cs[i]? = some c → l[i]? = some v → VR ro c h v
  | [], l => by simp [PR]
  | c :: cs, [] => by simp [PR]
  | c :: cs, v :: l => by
    simp only [PR, PR_iff cs, List.length_cons]
    constructor
    · rintro ⟨v', r, e, h1, h2, h3⟩
      cases e
      refine ⟨by omega, fun i c' v'' hc hv => ?_⟩
      cases i with
      | zero => simp at hc hv; subst hc; subst hv; exact h1
      | succ i => exact h3 i c' v'' (by simpa using hc) (by simpa using hv)
    · rintro ⟨h1, h2⟩
      refine ⟨v, l, rfl, h2 0 c v (by simp) (by simp), by omega, fun i c' v' hc hv => h2 (i + 1) c' v' (by simpa using hc) (by simpa using hv)⟩

theorem PR.len {ro : Ro} {h : Rho} {cs : List V} {l : List Value} (r : PR ro cs h l) : cs.length ≤ l.length := ((PR_iff cs l).1 r).1
theorem PR.at {ro : Ro} {h : Rho} {cs : List V} {l : List Value} (r : PR ro cs h l) {i : Nat} {c : V} {v : Value} (hc : cs[i]? = some c) (hv : l[i]? = some v) : VR ro c h v :=
  ((PR_iff cs l).1 r).2 i c v hc hv
theorem PR.get {ro : Ro} {h : Rho} {cs : List V} {l : List Value} (r : PR ro cs h l) {i : Nat} {c : V} (hc : cs[i]? = some c) : ∃ v, l[i]? = some v ∧ VR ro c h v := by
  have hi : i < cs.length := by
    rcases Nat.lt_or_ge i cs.length with h | h
    · exact h
    · rw [List.getElem?_eq_none h] at hc; cases hc
  have := r.len
  exact ⟨l[i], by simp [show i < l.length by omega], r.at hc (by simp [show i < l.length by omega])⟩
theorem PR.mk {ro : Ro} {h : Rho} {cs : List V} {l : List Value} (hl : cs.length ≤ l.length) (ha : ∀ (i : Nat) c v, cs[i]? = some c → l[i]? = some v → VR ro c h v) : PR ro cs h l :=
  (PR_iff cs l).2 ⟨hl, ha⟩
theorem PR.drop {ro : Ro} {h : Rho} {cs : List V} {l : List Value} (r : PR ro cs h l) (k : Nat) : PR ro (cs.drop k) h (l.drop k) := by
  have := r.len
  refine .mk (by simp; omega) fun i c v hc hv => r.at (i := k + i) ?_ ?_
  · simpa [List.getElem?_drop] using hc
  · simpa [List.getElem?_drop] using hv
theorem PR.take {ro : Ro} {h : Rho} {cs : List V} {l : List Value} (r : PR ro cs h l) (k : Nat) : PR ro (cs.take k) h (l.take k) := by
  have := r.len
  refine .mk (by simp; omega) fun i c v hc hv => r.at (i := i) ?_ ?_
  · rw [List.getElem?_take] at hc; split at hc <;> simp_all
  · rw [List.getElem?_take] at hv; split at hv <;> simp_all
theorem PR.takeL {ro : Ro} {h : Rho} {cs : List V} {l : List Value} (r : PR ro cs h l) (k : Nat) : PR ro (cs.take k) h l := by
  have := r.len
  refine .mk (by simp; omega) fun i c v hc hv => r.at (i := i) ?_ hv
  rw [List.getElem?_take] at hc; split at hc <;> simp_all
theorem PR.append {ro : Ro} {h : Rho} {cs ds : List V} {l k : List Value} (r : PR ro cs h l) (hl : cs.length = l.length) (r' : PR ro ds h k) : PR ro (cs ++ ds) h (l ++ k) := by
  have := r'.len
  refine .mk (by simp; omega) fun i c v hc hv => ?_
  by_cases hi : i < cs.length
  · rw [List.getElem?_append_left hi] at hc
    rw [List.getElem?_append_left (by omega)] at hv
    exact r.at hc hv
  · rw [List.getElem?_append_right (by omega)] at hc hv
    rw [← hl] at hv
    exact r'.at hc hv

end Pi


/- The model's code with all types resolved: what the value-level interpreter runs. -/
namespace Pi
open Go (IntKind TypeId FuncId Fn BinOp UnOp LoopState Value Addr World Program Operand)

def cv1 : Value → Option V
  | .bool x => some (.b x)
  | .int k n => some (.i k n)
  | .string s => some (.s s)
  | .pointer none => some .np
  | .slice none 0 0 => some .ns
  | .map none => some .nm
  | .nilFunc => some .nf
  | .nilIface => some .ni
  | .func (.func f) a c => if a.size = 0 ∧ c.size = 0 then some (.fn (.func f) [] []) else none
  | _ => none

def cvL : List Value → Option (List V)
  | [] => some []
  | v :: r => (cv1 v).bind fun x => (cvL r).map fun l => x :: l

def cv : Value → Option V
  | .agg cs => (cvL cs.toList).map .ag
  | v => cv1 v

def opd : Operand → Option Opd
  | .tmp t => some (.t t)
  | .const v => (cv v).map .c
  | .func f => some (.c (.fn (.func f) [] []))
  | .global _ => none

def opds : List Operand → Option (List Opd)
  | [] => some []
  | x :: r => (opd x).bind fun y => (opds r).map fun l => y :: l

def opdO : Option Operand → Option (Option Opd)
  | none => some none
  | some x => (opd x).map some

def aggOf (P : Program) (t : TypeId) : Option Bool :=
  match P.underlying t with
  | some (.struct _) => some true
  | some (.array _ _) => some true
  | some _ => some false
  | none => none
def sizeIn (P : Program) (t : TypeId) : Option Nat := (P.info? t).map (·.size)
def zeroIn (P : Program) (t : TypeId) : Option Value := (P.info? t).bind (·.zero)
def zeroV (P : Program) (t : TypeId) : Option V := (zeroIn P t).bind cv
def zeroL (P : Program) (t : TypeId) : Option (List V) := (zeroIn P t).bind fun v => cvL v.cells.toList

/-- A type whose values are numbers, truths or texts, compared as such. -/
def kindT (P : Program) (t : TypeId) : Option K :=
  match P.underlying t with
  | some (.int _) => some .i
  | some .bool => some .b
  | some .string => some .s
  | _ => none

def fieldsK (P : Program) : List Go.Field → Nat → Option (List K)
  | [], _ => some []
  | f :: r, n => if f.name ≠ "_" ∧ f.offset = n ∧ aggOf P f.type = some false then (kindT P f.type).bind fun k => (fieldsK P r (n + 1)).map fun l => k :: l else none

def qOf (P : Program) (t : TypeId) : Option Q :=
  match P.underlying t with
  | some (.int _) => some (.one .i)
  | some .bool => some (.one .b)
  | some .string => some (.one .s)
  | some (.struct fs) => if P.stoodInHeld t then none else (fieldsK P fs.toList 0).map .many
  | some (.array n e) => if sizeIn P e = some 1 ∧ aggOf P e = some false then (kindT P e).map fun k => .many (List.replicate n k) else none
  | _ => none

def parts (P : Program) (fs : Array Go.Field) : List (Nat × Operand) → Option (List (Nat × Nat × Opd))
  | [] => some []
  | (j, x) :: r => (fs[j]?).bind fun f => (sizeIn P f.type).bind fun n => (opd x).bind fun y => (parts P fs r).map fun l => (f.offset, n, y) :: l

def partsA (size : Nat) : List (Nat × Operand) → Option (List (Nat × Nat × Opd))
  | [] => some []
  | (j, x) :: r => (opd x).bind fun y => (partsA size r).map fun l => (j * size, size, y) :: l

def LIM : Nat := 4096

def compCall (P : Program) (c : Go.Call) : Option POp :=
  match c.callee with
  | .value f => (opd f).bind fun f => (opds c.args.toList).map fun l => .ca f l
  | .builtin .len => match c.args.toList, c.argTypes.toList with
    | [x], [t] => match P.underlying t with
      | some (.array n _) => some (.mv (.c (.i .i64 n)))
      | some .string => (opd x).map (.ln .s)
      | some (.slice _) => (opd x).map (.ln .l)
      | some (.map _ _) => (opd x).map (.ln .m)
      | _ => none
    | _, _ => none
  | .builtin .cap => match c.args.toList, c.argTypes.toList with
    | [x], [t] => match P.underlying t with
      | some (.slice _) => (opd x).map (.ln .c)
      | _ => none
    | _, _ => none
  | .builtin .append => match c.args.toList, c.argTypes.toList with
    | [s, x], [t, u] => match P.underlying t, P.underlying u with
      | some (.slice e), some (.slice _) => (P.info? e).bind fun inf => (zeroL P e).bind fun z => if 1 ≤ inf.size ∧ inf.bytes ≤ LIM ∧ z.length = inf.size then (opd s).bind fun s => (opd x).map fun x => .ap inf.size s x else none
      | some (.slice e), some .string => (P.info? e).bind fun inf => (zeroL P e).bind fun z => if 1 ≤ inf.size ∧ inf.bytes ≤ LIM ∧ z.length = inf.size then (opd s).bind fun s => (opd x).map fun x => .ap inf.size s x else none
      | some (.slice e), some (.int _) => (P.info? e).bind fun inf => (zeroL P e).bind fun z => if 1 ≤ inf.size ∧ inf.bytes ≤ LIM ∧ z.length = inf.size then (opd s).bind fun s => (opd x).map fun x => .an inf.size z s x else none
      | _, _ => none
    | _, _ => none
  | .builtin .copy => match c.args.toList, c.argTypes.toList with
    | [s, x], t :: _ => match P.underlying t with
      | some (.slice e) => (sizeIn P e).bind fun n => if 1 ≤ n then (opd s).bind fun s => (opd x).map fun x => .cp n s x else none
      | _ => none
    | _, _ => none
  | .builtin .max => (opds c.args.toList).map .mx
  | .builtin .min => (opds c.args.toList).map .mn
  | .builtin .recover => some .rc
  | _ => none

/-- The types of two cells that may be seen as a type. -/
def seenT (P : Program) (u : TypeId) : List Nat := (List.range P.types.size).filter fun T => match zeroL P T with
  | some [.np, .ns] => P.cellsOf T == 2 && Go.liesAt P P.depth T 1 0 u 1
  | _ => false

/-- What strings.Builder needs. -/
def unsf (P : Program) (o : Go.Op) : Option POp :=
  match o with
  | .alloc t => match zeroL P t with
    | some [.np, .ns] => some (.ub (.alt t [.np, .ns]) (.c .un) (.c .un))
    | _ => none
  | .binOp op t x y _ => match P.underlying t with
    | some (.pointer te) => if (P.info? te).isSome then (opd x).bind fun x => (opd y).bind fun y => match op with
      | .eql => some (.ub (.pe false) x y)
      | .neq => some (.ub (.pe true) x y)
      | _ => none
      else none
    | _ => none
  | .convert s d x => match P.underlying s, P.underlying d with
    | some (.pointer t), some .unsafePointer => match P.info? t with
      | some inf => if inf.size ≠ 0 then (opd x).map fun x => .ub .tu x (.c .un) else none
      | none => none
    | some .unsafePointer, some (.pointer u) => if (P.info? u).isSome then (opd x).map fun x => .ub (.fu (seenT P u)) x (.c .un) else none
    | _, _ => none
  | .call c => match c.callee with
    | .value (.func k) => match P.funcs[k]?, c.args.toList with
      | some fn, [x] => if fn.name = "internal/abi.NoEscape" ∧ fn.origin = "" ∧ fn.body.isNone then (opd x).map .mv else none
      | _, _ => none
    | .builtin .append => match c.args.toList, c.argTypes.toList with
      | [s, x], [t, u] => match P.underlying t, P.underlying u with
        | some (.slice e), some .string => match P.info? e with
          | some inf => if inf.size = 1 ∧ inf.bytes ≤ LIM ∧ P.cellsOf e = 1 ∧ (zeroL P e).map List.length = some 1 then (opd s).bind fun s => (opd x).map fun x => .ub (.apt e) s x else none
          | none => none
        | _, _ => none
      | _, _ => none
    | .builtin .unsafeSliceData => match c.args.toList with
      | [x] => (opd x).map fun x => .ub .sd x (.c .un)
      | _ => none
    | .builtin .unsafeString => match c.args.toList, c.argTypes.toList with
      | [p, n], [pt, it] => match P.underlying pt with
        | some (.pointer e) => if P.cellsOf e = 1 then (opd p).bind fun p => (opd n).map fun n => .ub (.us e) p n else none
        | _ => none
      | _, _ => none
    | _ => none
  | _ => none

def compOp0 (P : Program) (o : Go.Op) : Option POp :=
  match o with
  | .move x => (opd x).map .mv
  | .assign x => (opd x).map .mv
  | .pick c a b => (opd c).bind fun c => (opd a).bind fun a => (opd b).map fun b => .pk c a b
  | .alloc t => (zeroL P t).map .al
  | .box _ x => (opd x).map .bx
  | .build t ps => (zeroL P t).bind fun z => match P.underlying t with
    | some (.struct fs) => if fs.toList.all (fun f => (sizeIn P f.type).isSome) then (parts P fs ps.toList).map fun l => .bd z l else none
    | some (.array _ e) => (sizeIn P e).bind fun n => (partsA n ps.toList).map fun l => .bd z l
    | _ => none
  | .buildSlice t len ps => match P.underlying t with
    | some (.slice e) => (sizeIn P e).bind fun n => (zeroL P e).bind fun z => if 1 ≤ n ∧ z.length = n ∧ len * n ≤ 2 ^ 24 then (partsA n ps.toList).map fun l => .bs n len z l else none
    | _ => none
  | .load t a => (aggOf P t).bind fun g => (sizeIn P t).bind fun n => (opd a).map fun a => .ld g n a
  | .store t a x => (sizeIn P t).bind fun n => (opd a).bind fun a => (opd x).map fun x => .st n a x
  | .nilCheck x => (opd x).map .nc
  | .binOp op t x y _ => (opd x).bind fun x => (opd y).bind fun y => match P.underlying t with
    | some (.int _) => some (.bi op x y)
    | some .string => some (.bi op x y)
    | some _ => (qOf P t).bind fun q => if P.eqGuardType P.depth t then none else match op with
      | .eql => some (.eq false q x y)
      | .neq => some (.eq true q x y)
      | _ => none
    | none => none
  | .unOp op _ x => (opd x).map fun x => .un op x
  | .convert s d x => (opd x).bind fun x => match P.underlying s, P.underlying d with
    | some (.int _), some (.int k) => some (.ci k x)
    | some (.slice e), some .string => match P.underlying e with
      | some (.int .u8) => some (.cbs x)
      | _ => none
    | some .string, some (.slice e) => match P.underlying e with
      | some (.int .u8) => some (.csb x)
      | _ => none
    | _, _ => none
  | .makeInterface t x => match P.underlying t with
    | some (.interface _) => none
    | some _ => (opd x).map fun x => .mi t x
    | none => none
  | .makeFunc f a c => match f with
    | .func g => (opds a.toList).bind fun a => (opds c.toList).map fun c => .mf (.func g) a c
    | _ => none
  | .makeMap _ none => some .mm
  | .makeSlice t l c => match P.underlying t with
    | some (.slice e) => (P.info? e).bind fun inf => (zeroL P e).bind fun z =>
      if 1 ≤ inf.size ∧ inf.bytes ≤ LIM ∧ z.length = inf.size then (opd l).bind fun l => (opd c).map fun c => .mk inf.size z l c else none
    | _ => none
  | .slice t x lo hi mx => (opd x).bind fun x => (opdO lo).bind fun lo => (opdO hi).bind fun hi => (opdO mx).bind fun mx => match P.underlying t with
    | some .string => if mx.isSome then none else some (.ss x lo hi)
    | some (.slice e) => (sizeIn P e).bind fun n => if 1 ≤ n then some (.sv n x lo hi mx) else none
    | some (.array len e) => (sizeIn P e).bind fun n => if 1 ≤ n ∧ mx.isNone then some (.sa len n x lo hi) else none
    | _ => none
  | .fieldAddr t x f => match P.underlying t with
    | some (.struct fs) => (fs[f]?).bind fun f => (sizeIn P f.type).bind fun n => if 1 ≤ n then (opd x).map fun x => .fa f.offset x else none
    | _ => none
  | .field t x f => match P.underlying t with
    | some (.struct fs) => (fs[f]?).bind fun f => (aggOf P f.type).bind fun g => (sizeIn P f.type).bind fun n => (opd x).map fun x => .fe g f.offset n x
    | _ => none
  | .indexAddr t x i => (opd x).bind fun x => (opd i).bind fun i => match P.underlying t with
    | some (.slice e) => (sizeIn P e).bind fun n => some (.ia n x i)
    | some (.array len e) => (sizeIn P e).bind fun n => some (.iz len n x i)
    | _ => none
  | .index t x i => (opd x).bind fun x => (opd i).bind fun i => match P.underlying t with
    | some (.array len e) => (aggOf P e).bind fun g => (sizeIn P e).bind fun n => some (.xa g len n x i)
    | some .string => some (.xs x i)
    | _ => none
  | .lookup t m k ok => (opd m).bind fun m => (opd k).bind fun k => match P.underlying t with
    | some (.map kt e) => (qOf P kt).bind fun q => (zeroV P e).map fun z => .lk q z m k ok
    | _ => none
  | .mapUpdate t m k v => (opd m).bind fun m => (opd k).bind fun k => (opd v).bind fun v => match P.underlying t with
    | some (.map kt _) => (qOf P kt).map fun q => .mu q m k v
    | _ => none
  | .insert t m k v => (opd m).bind fun m => (opd k).bind fun k => (opd v).bind fun v => match P.underlying t with
    | some (.map kt _) => (qOf P kt).map fun q => .mu q m k v
    | _ => none
  | .typeAssert x _ t ok => match P.underlying t with
    | some (.interface _) => none
    | some _ => (opd x).bind fun x => (zeroV P t).map fun z => .ta t z x ok
    | none => none
  | .extract x i => (opd x).map fun x => .ex x i
  | .call c => compCall P c
  | .panic x => (opd x).map .pa
  | .defer c => match c.callee with
    | .value f => (opd f).bind fun f => (opds c.args.toList).map fun l => .df f l
    | _ => none
  | _ => none

def compOp (P : Program) (o : Go.Op) : Option POp := match unsf P o with
  | some p => some p
  | none => compOp0 P o

/-- An operation's guard: the slot that is asked, and what it has to be. -/
def compGuard (ops : Array Go.Oper) (o : Go.Oper) : Option (Option (Nat × Bool)) :=
  match o.guard with
  | none => some none
  | some (j, w) => (ops[j]?).bind fun p => p.dst.map fun t => some (t, w)

def compOper (P : Program) (N : Nat) (ops : Array Go.Oper) (o : Go.Oper) : Option POper :=
  if o.dst.all (· < N) then (compGuard ops o).map fun g => .mk o.dst ((compOp P o.op).getD .no) g else none

def compOpers (P : Program) (N : Nat) (ops : Array Go.Oper) : List Go.Oper → Option (List POper)
  | [] => some []
  | o :: r => (compOper P N ops o).bind fun x => (compOpers P N ops r).map fun l => x :: l

/-- Two of some operations: do they meet in slots; may they meet in memory? -/
def meetAt (ps : List POper) (i j : Nat) : Bool :=
  match ps[i]?, ps[j]? with
  | some a, some b => slotsMeet a b
  | _, _ => true
def memAt (ps : List POper) (i j : Nat) : Bool :=
  match ps[i]?, ps[j]? with
  | some a, some b => a.o.cls + b.o.cls ≥ 3
  | _, _ => true

/-- Of some operations, the first of which lies at 'lo': the pairs of open order. None: two of them meet in a slot. -/
def pairsOf (ps : List POper) (bef : Array Nat) (lo : Nat) : Option (List (Nat × Nat)) :=
  let prs := (List.range ps.length).flatMap fun j => ((List.range j).filter fun i => !(bef.getD (lo + j) 0).testBit (lo + i)).map fun i => (i, j)
  if prs.all fun p => !meetAt ps p.1 p.2 then some (prs.filter fun p => memAt ps p.1 p.2) else none

/-- Does every operation wait for earlier ones alone? -/
def edgesOk (ops : Array Go.Oper) : Bool :=
  (List.range ops.size).all fun i => match ops[i]? with | some o => o.after.toList.all fun e => !Go.Region.binds .any e || decide (e.on < i) | none => true

/-- Is everything ahead of j done before j, and everything behind it after it? -/
def isJoint (bef : Array Nat) (n j : Nat) : Bool :=
  ((List.range j).all fun i => (bef.getD j 0).testBit i) && ((List.range' (j + 1) (n - (j + 1))).all fun i => (bef.getD i 0).testBit j)

/-- The pieces of a region of open order: 'lo' is where the piece under way began. -/
def segsOf (P : Program) (N : Nat) (ops : Array Go.Oper) (bef : Array Nat) : (todo : List Nat) → (lo : Nat) → Option (List Seg)
  | [], lo =>
    if lo = ops.size then some [] else
    (compOpers P N ops ((ops.toList.drop lo).take (ops.size - lo))).bind fun l => (pairsOf l bef lo).map fun ps => [.any l ps]
  | j :: r, lo =>
    if isJoint bef ops.size j then
      (compOpers P N ops ((ops.toList.drop j).take 1)).bind fun one => (segsOf P N ops bef r (j + 1)).bind fun rest =>
        if lo = j then some (.seq one :: rest) else
        (compOpers P N ops ((ops.toList.drop lo).take (j - lo))).bind fun l => (pairsOf l bef lo).map fun ps => .any l ps :: .seq one :: rest
    else segsOf P N ops bef r lo

def comp (P : Program) (N : Nat) : Go.Code → Option PCode
  | .skip => some .skip
  | .region _ ops draw =>
    if draw then (if edgesOk ops then (segsOf P N ops (Go.Region.before ops) (List.range ops.size) 0).map .reg else none)
    else (compOpers P N ops ops.toList).map fun l => .reg [.seq l]
  | .seq a b => (comp P N a).bind fun a => (comp P N b).map fun b => .seq a b
  | .cond c a b => (opd c).bind fun c => (comp P N a).bind fun a => (comp P N b).map fun b => .cond c a b
  | .block id c => (comp P N c).map fun c => .block id c
  | .loop c => (comp P N c).map .loop
  | .rangeFunc f ps a b => if ps.toList.all (· < N) then (opd f).bind fun f => (comp P N a).bind fun a => (comp P N b).map fun b => .rf f ps.toList a b else none
  | .exit id => some (.exit id)
  | .scope c => (comp P N c).map .scope
  | .ret => some .ret
  | .refuse _ => some (.cond (.c .un) .skip .skip)
  | _ => none

def compR (P : Program) : List Go.ResultVar → Option (List RVar)
  | [] => some []
  | .tmp t :: r => (compR P r).map fun l => .t t :: l
  | .cell a t :: r => (aggOf P t).bind fun g => (sizeIn P t).bind fun n => (compR P r).map fun l => .c a g n :: l

def compF (P : Program) (f : Go.Func) : Option PFun :=
  f.body.bind fun c => (comp P f.ntmps c).bind fun c => (compR P f.results.toList).map fun rs => ⟨c, rs⟩

end Pi


/- What a pure store says of the machine's memory; how it stays so. -/
namespace Pi
open Go (IntKind TypeId FuncId Fn BinOp UnOp LoopState Value Addr World Program undef Operand)

structure G where
  rho : Rho
  ro : Ro
  keep : Ro

def ER (g : G) (e : Env) (tm : Array Value) : Prop := ∀ t, VR g.ro (e t) g.rho (tm.getD t undef)

def JR : Option X → Option Go.Code → Prop
  | none, none => True
  | some .ret, some .ret => True
  | some (.exit i), some (.exit j) => i = j
  | _, _ => False

def LoopR (P : Program) (g : G) (q : LoopRec) (l : Go.Loop) : Prop :=
  ER g q.e l.tmps ∧ l.params.toList = q.ps ∧ (∃ N, N ≤ l.tmps.size ∧ (∀ t ∈ q.ps, t < N) ∧ comp P N l.assign = some q.asg ∧ comp P N l.body = some q.body) ∧ l.state = q.st ∧ JR q.pend l.pending ∧ ∃ fn, P.funcs[l.fn]? = some fn

def ObR (P : Program) (g : G) (w : World) (b n : Nat) : PObj → Prop
  | .cells cs r => ∃ arr e f, w.heap[b]? = some (.cells arr e f) ∧ arr.size = n ∧ OneL arr.toList ∧ PR g.ro cs g.rho arr.toList ∧
      (∀ i, i < n → ¬ (f.1 ≤ i ∧ i < f.2)) ∧ (if r then g.ro b = some (.cells arr e f) else g.keep b = none)
  | .map ks vs r => ∃ es ck, w.heap[b]? = some (.map es ck) ∧ ks.length = es.size ∧ vs.length = es.size ∧
      PR g.ro ks g.rho (es.toList.map (·.key)) ∧ PR g.ro vs g.rho (es.toList.map (·.val)) ∧ (if r then g.ro b = some (.map es ck) else g.keep b = none)
  | .loop q => ∃ l, w.heap[b]? = some (.loop l) ∧ LoopR P g q l ∧ g.keep b = none
  | .dfr => w.heap[b]? = some (.deferred (some [])) ∧ g.keep b = none
  | .lit cs => ∃ arr e f, w.heap[b]? = some (.cells arr e f) ∧ arr.size = n ∧ OneL arr.toList ∧ PR g.ro cs g.rho arr.toList ∧
      (∀ i, i < n → ¬ (f.1 ≤ i ∧ i < f.2)) ∧ g.keep b = none ∧ cs.length = n
  | .tc T cs => ∃ arr f, w.heap[b]? = some (.cells arr T f) ∧ arr.size = n ∧ OneL arr.toList ∧ PR g.ro cs g.rho arr.toList ∧
      (∀ i, i < n → ¬ (f.1 ≤ i ∧ i < f.2)) ∧ g.keep b = none ∧ (P.cellsOf T ≠ 1 → cs.length = n)
  | .tr T cs => ∃ arr f, w.heap[b]? = some (.cells arr T f) ∧ arr.size = n ∧ PR g.ro cs g.rho arr.toList ∧ g.keep b = none

structure WR (P : Program) (g : G) (m : Sto) (w : World) : Prop where
  obj : ∀ l o, m l = some o → ∃ b n, g.rho l = some (b, n) ∧ ObR P g w b n o
  inj : ∀ l k o o' b n n', m l = some o → m k = some o' → g.rho l = some (b, n) → g.rho k = some (b, n') → l = k
  ro : ∀ b o, g.ro b = some o → g.keep b = some o
  keep : ∀ b o, g.keep b = some o → w.heap[b]? = some o

/-- The world's other parts are as they were, and no block is gone. -/
structure WB (w w' : World) : Prop where
  os : w'.os = w.os
  tape : w'.tape = w.tape
  output : w'.output = w.output
  size : w.heap.size ≤ w'.heap.size

theorem WB.refl (w : World) : WB w w := ⟨rfl, rfl, rfl, Nat.le_refl _⟩
theorem WB.trans {a b c : World} (h : WB a b) (k : WB b c) : WB a c := ⟨k.os.trans h.os, k.tape.trans h.tape, k.output.trans h.output, Nat.le_trans h.size k.size⟩

def Rho.set (h : Rho) (l : Nat) (r : Nat × Nat) : Rho := fun j => if j = l then some r else h j
theorem Rho.set_ext {h : Rho} {l : Nat} {r : Nat × Nat} (hn : h l = none) : RhoE h (h.set l r) := by
  intro j q e
  unfold Rho.set
  split
  · rename_i e'; subst e'; rw [hn] at e; cases e
  · exact e

theorem ER.mono {g g' : G} {e : Env} {tm : Array Value} (h : ER g e tm) (h1 : RhoE g.rho g'.rho) (h2 : RoE g.ro g'.ro) : ER g' e tm :=
  fun t => VR.mono h2 _ h1 (h t)

theorem LoopR.mono {P : Program} {g g' : G} {q : LoopRec} {l : Go.Loop} (h : LoopR P g q l) (h1 : RhoE g.rho g'.rho) (h2 : RoE g.ro g'.ro) : LoopR P g' q l :=
  ⟨h.1.mono h1 h2, h.2⟩

/-- An object stays as it is where its block does; 'keep' may grow elsewhere. -/
theorem ObR.mono {P : Program} {g g' : G} {w w' : World} {b n : Nat} {o : PObj} (h : ObR P g w b n o) (h1 : RhoE g.rho g'.rho) (h2 : RoE g.ro g'.ro)
    (hk : g.keep b = none → g'.keep b = none) (hb : w'.heap[b]? = w.heap[b]?) : ObR P g' w' b n o := by
  cases o with
  | cells cs r =>
    obtain ⟨arr, e, f, h3, h4, h5, h6, h7, h8⟩ := h
    refine ⟨arr, e, f, hb.trans h3, h4, h5, PR.mono h2 cs h1 h6, h7, ?_⟩
    cases r with
    | true => exact h2 _ _ h8
    | false => exact hk h8
  | map ks vs r =>
    obtain ⟨es, ck, h3, h4, h5, h6, h7, h8⟩ := h
    refine ⟨es, ck, hb.trans h3, h4, h5, PR.mono h2 ks h1 h6, PR.mono h2 vs h1 h7, ?_⟩
    cases r with
    | true => exact h2 _ _ h8
    | false => exact hk h8
  | loop q =>
    obtain ⟨l, h3, h4, h5⟩ := h
    exact ⟨l, hb.trans h3, h4.mono h1 h2, hk h5⟩
  | dfr => exact ⟨hb.trans h.1, hk h.2⟩
  | lit cs =>
    obtain ⟨arr, e, f, h3, h4, h5, h6, h7, h8, h9⟩ := h
    exact ⟨arr, e, f, hb.trans h3, h4, h5, PR.mono h2 cs h1 h6, h7, hk h8, h9⟩
  | tc T cs =>
    obtain ⟨arr, f, h3, h4, h5, h6, h7, h8, h9⟩ := h
    exact ⟨arr, f, hb.trans h3, h4, h5, PR.mono h2 cs h1 h6, h7, hk h8, h9⟩
  | tr T cs =>
    obtain ⟨arr, f, h3, h4, h5, h6⟩ := h
    exact ⟨arr, f, hb.trans h3, h4, PR.mono h2 cs h1 h5, hk h6⟩
theorem ObR.tcells {P : Program} {g : G} {w : World} {b n T : Nat} {cs : List V} (h : ObR P g w b n (.tc T cs)) : ObR P g w b n (.cells cs false) := by
  obtain ⟨arr, f, h3, h4, h5, h6, h7, h8, h9⟩ := h
  exact ⟨arr, T, f, h3, h4, h5, h6, h7, by simpa using h8⟩
theorem ObR.cells {P : Program} {g : G} {w : World} {b n : Nat} {cs : List V} (h : ObR P g w b n (.lit cs)) : ObR P g w b n (.cells cs false) := by
  obtain ⟨arr, e, f, h3, h4, h5, h6, h7, h8, h9⟩ := h
  exact ⟨arr, e, f, h3, h4, h5, h6, h7, by simpa using h8⟩

theorem ObR.lt {P : Program} {g : G} {w : World} {b n : Nat} {o : PObj} (h : ObR P g w b n o) : b < w.heap.size := by
  have aux : ∀ {x}, w.heap[b]? = some x → b < w.heap.size := by
    intro x hx
    exact (Array.getElem?_eq_some_iff.1 hx).1
  cases o with
  | cells cs r => obtain ⟨_, _, _, h3, _⟩ := h; exact aux h3
  | map ks vs r => obtain ⟨_, _, h3, _⟩ := h; exact aux h3
  | loop q => obtain ⟨_, h3, _⟩ := h; exact aux h3
  | dfr => exact aux h.1
  | lit cs => obtain ⟨_, _, _, h3, _⟩ := h; exact aux h3
  | tc T cs => obtain ⟨_, _, h3, _⟩ := h; exact aux h3
  | tr T cs => obtain ⟨_, _, h3, _⟩ := h; exact aux h3

theorem Sto.set_same (m : Sto) (l : Nat) (o : Option PObj) : m.set l o l = o := by simp [Sto.set]
theorem Sto.set_ne (m : Sto) {l k : Nat} (o : Option PObj) (h : k ≠ l) : m.set l o k = m k := by simp [Sto.set, h]

/-- Only the heap counts. -/
theorem WR.heap {P : Program} {g : G} {m : Sto} {w w' : World} (h : WR P g m w) (hb : w'.heap = w.heap) : WR P g m w' :=
  ⟨fun l o hl => let ⟨b, n, h1, h2⟩ := h.obj l o hl; ⟨b, n, h1, h2.mono (RhoE.refl _) (RoE.refl _) id (by rw [hb])⟩, h.inj, h.ro, fun b o hk => by rw [hb]; exact h.keep b o hk⟩

/-- A new thing. -/
theorem WR.new {P : Program} {g : G} {m : Sto} {w w' : World} {l n : Nat} {o : PObj} (h : WR P g m w) (hm : g.rho l = none)
    (hb : ∀ b, b < w.heap.size → w'.heap[b]? = w.heap[b]?)
    (ho : ObR P { g with rho := g.rho.set l (w.heap.size, n) } w' w.heap.size n o) :
    WR P { g with rho := g.rho.set l (w.heap.size, n) } (m.set l (some o)) w' := by
  have hx := Rho.set_ext (r := (w.heap.size, n)) hm
  refine ⟨fun k q hk => ?_, fun k k' q q' b n1 n2 hk hk' hr hr' => ?_, h.ro, fun b q hk => ?_⟩
  · by_cases e : k = l
    · subst e
      rw [Sto.set_same] at hk
      cases hk
      exact ⟨w.heap.size, n, by simp [Rho.set], ho⟩
    · rw [Sto.set_ne _ _ e] at hk
      obtain ⟨b, n1, h1, h2⟩ := h.obj k q hk
      exact ⟨b, n1, hx _ _ h1, h2.mono hx (RoE.refl _) id (hb b h2.lt)⟩
  · dsimp only at hr hr'
    by_cases e : k = l
    · by_cases e' : k' = l
      · exact e.trans e'.symm
      · exfalso
        subst e
        rw [Sto.set_ne _ _ e'] at hk'
        obtain ⟨b', n', h1, h2⟩ := h.obj k' q' hk'
        have := hx _ _ h1
        rw [hr'] at this
        cases this
        simp [Rho.set] at hr
        have := h2.lt
        omega
    · by_cases e' : k' = l
      · exfalso
        subst e'
        rw [Sto.set_ne _ _ e] at hk
        obtain ⟨b', n', h1, h2⟩ := h.obj k q hk
        have := hx _ _ h1
        rw [hr] at this
        cases this
        simp [Rho.set] at hr'
        have := h2.lt
        omega
      · rw [Sto.set_ne _ _ e] at hk
        rw [Sto.set_ne _ _ e'] at hk'
        have hr1 : g.rho k = some (b, n1) := by simpa [Rho.set, e] using hr
        have hr2 : g.rho k' = some (b, n2) := by simpa [Rho.set, e'] using hr'
        exact h.inj k k' q q' b n1 n2 hk hk' hr1 hr2
  · have := h.keep b q hk
    have hlt : b < w.heap.size := (Array.getElem?_eq_some_iff.1 this).1
    rw [hb b hlt]
    exact this

/-- A thing that is not read-only is another one now. -/
theorem WR.put {P : Program} {g : G} {m : Sto} {w w' : World} {l b n : Nat} {o o' : PObj} (h : WR P g m w) (hl : m l = some o) (hr : g.rho l = some (b, n))
    (hk : g.keep b = none) (hb : ∀ c, c ≠ b → w'.heap[c]? = w.heap[c]?) (ho : ObR P g w' b n o') : WR P g (m.set l (some o')) w' := by
  refine ⟨fun k q hq => ?_, fun k k' q q' c n1 n2 hq hq' h1 h2 => ?_, h.ro, fun c q hq => ?_⟩
  · by_cases e : k = l
    · subst e
      rw [Sto.set_same] at hq
      cases hq
      exact ⟨b, n, hr, ho⟩
    · rw [Sto.set_ne _ _ e] at hq
      obtain ⟨c, n1, h1, h2⟩ := h.obj k q hq
      refine ⟨c, n1, h1, h2.mono (RhoE.refl _) (RoE.refl _) id (hb c ?_)⟩
      intro ec
      subst ec
      exact e (h.inj k l q o c n1 n hq hl h1 hr)
  · have aux : ∀ {j p}, m.set l (some o') j = some p → ∃ p', m j = some p' := by
      intro j p hj
      by_cases e : j = l
      · exact ⟨o, e ▸ hl⟩
      · rw [Sto.set_ne _ _ e] at hj; exact ⟨p, hj⟩
    obtain ⟨p, hp⟩ := aux hq
    obtain ⟨p', hp'⟩ := aux hq'
    exact h.inj k k' p p' c n1 n2 hp hp' h1 h2
  · rw [hb c (fun e => by subst e; rw [hk] at hq; cases hq)]
    exact h.keep c q hq

/-- A thing is gone. -/
theorem WR.drop {P : Program} {g : G} {m : Sto} {w : World} (h : WR P g m w) (l : Nat) : WR P g (m.set l none) w := by
  have aux : ∀ {j p}, m.set l none j = some p → m j = some p := by
    intro j p hj
    by_cases e : j = l
    · subst e; rw [Sto.set_same] at hj; cases hj
    · rw [Sto.set_ne _ _ e] at hj; exact hj
  exact ⟨fun k q hq => h.obj k q (aux hq), fun k k' q q' c n1 n2 hq hq' => h.inj k k' q q' c n1 n2 (aux hq) (aux hq'), h.ro, h.keep⟩

/-- A thing is gone, and another one lies in its block. -/
theorem WR.move {P : Program} {g : G} {m : Sto} {w w' : World} {l k b n : Nat} {o o' : PObj} (h : WR P g m w) (hl : m l = some o) (hr : g.rho l = some (b, n)) (hn : g.rho k = none)
    (hk : g.keep b = none) (hb : ∀ c, c ≠ b → w'.heap[c]? = w.heap[c]?) (ho : ObR P { g with rho := g.rho.set k (b, n) } w' b n o') :
    WR P { g with rho := g.rho.set k (b, n) } ((m.set l none).set k (some o')) w' := by
  have hx := Rho.set_ext (r := (b, n)) hn
  have hlk : l ≠ k := by intro e; subst e; rw [hn] at hr; cases hr
  refine ⟨fun j q hq => ?_, fun j j' q q' c n1 n2 hq hq' h1 h2 => ?_, h.ro, fun c q hq => ?_⟩
  · by_cases e : j = k
    · subst e
      rw [Sto.set_same] at hq
      cases hq
      exact ⟨b, n, by simp [Rho.set], ho⟩
    · rw [Sto.set_ne _ _ e] at hq
      by_cases e' : j = l
      · subst e'; rw [Sto.set_same] at hq; cases hq
      · rw [Sto.set_ne _ _ e'] at hq
        obtain ⟨c, n1, h1, h2⟩ := h.obj j q hq
        refine ⟨c, n1, hx _ _ h1, h2.mono hx (RoE.refl _) id (hb c ?_)⟩
        intro ec
        subst ec
        exact e' (h.inj j l q o c n1 n hq hl h1 hr)
  · -- what each of two is, ahead of this
    have aux : ∀ {j p n3}, ((m.set l none).set k (some o')) j = some p → (g.rho.set k (b, n)) j = some (c, n3) → ∃ j0 p0 n0, m j0 = some p0 ∧ g.rho j0 = some (c, n0) ∧ ((j = k ∧ j0 = l) ∨ (j ≠ k ∧ j0 = j ∧ j ≠ l)) := by
      intro j p n3 hj hj'
      by_cases e : j = k
      · subst e
        simp [Rho.set] at hj'
        obtain ⟨rfl, rfl⟩ := hj'
        exact ⟨l, o, n, hl, hr, .inl ⟨rfl, rfl⟩⟩
      · rw [Sto.set_ne _ _ e] at hj
        by_cases e' : j = l
        · subst e'; rw [Sto.set_same] at hj; cases hj
        · rw [Sto.set_ne _ _ e'] at hj
          exact ⟨j, p, n3, hj, by simpa [Rho.set, e] using hj', .inr ⟨e, rfl, e'⟩⟩
    obtain ⟨a1, p1, m1, g1, g2, g3⟩ := aux hq h1
    obtain ⟨a2, p2, m2, k1, k2, k3⟩ := aux hq' h2
    have := h.inj a1 a2 p1 p2 c m1 m2 g1 k1 g2 k2
    subst this
    rcases g3 with ⟨e1, e2⟩ | ⟨e1, e2, e3⟩ <;> rcases k3 with ⟨f1, f2⟩ | ⟨f1, f2, f3⟩
    · exact e1.trans f1.symm
    · exact absurd (f2.symm.trans e2) f3
    · exact absurd (e2.symm.trans f2) e3
    · exact e2.symm.trans f2
  · rw [hb c (fun e => by subst e; rw [hk] at hq; cases hq)]
    exact h.keep c q hq

end Pi


/- The machine's operations against the pure ones: operands, memory. -/
namespace Pi
open Go (IntKind TypeId FuncId Fn BinOp UnOp LoopState Value Addr World Program undef Operand Sem Result)

/-- What an operand is, by the slots. -/
def evT (tm : Array Value) : Operand → Value
  | .tmp t => tm.getD t undef
  | .const v => v
  | .global g => .pointer (some ⟨g, 0, none⟩)
  | .func f => .func (.func f) #[] #[]

theorem eval_evT (fr : Go.Frame) : fr.eval = evT fr.tmps := by
  funext x; cases x <;> rfl

theorem cv1_ok {v : Value} {x : V} (h : cv1 v = some x) (ro : Ro) (r : Rho) : VR ro x r v ∧ v.oneCell' = true := by
  unfold cv1 at h
  split at h
  · cases h; simp [VR, Go.Value.oneCell']
  · cases h; simp [VR, Go.Value.oneCell']
  · cases h; simp [VR, Go.Value.oneCell']
  · cases h; simp [VR, Go.Value.oneCell']
  · cases h; simp [VR, Go.Value.oneCell']
  · cases h; simp [VR, Go.Value.oneCell']
  · cases h; simp [VR, Go.Value.oneCell']
  · cases h; simp [VR, Go.Value.oneCell']
  · split at h
    · cases h
      rename_i hs
      obtain ⟨h1, h2⟩ := hs
      refine ⟨?_, rfl⟩
      simp only [VR]
      exact ⟨_, _, _, rfl, rfl, h1.symm, h2.symm, trivial, trivial⟩
    · cases h
  · cases h

theorem cvL_ok : ∀ {l : List Value} {x : List V}, cvL l = some x → ∀ (ro : Ro) (r : Rho), PR ro x r l ∧ x.length = l.length ∧ OneL l
  | [], x, h, ro, r => by cases h; simp [PR, OneL]
  | v :: l, x, h, ro, r => by
    simp only [cvL, Option.bind_eq_some_iff, Option.map_eq_some_iff] at h
    obtain ⟨y, h1, l', h2, rfl⟩ := h
    obtain ⟨h3, h4⟩ := cv1_ok h1 ro r
    obtain ⟨h5, h6, h7⟩ := cvL_ok h2 ro r
    refine ⟨⟨v, l, rfl, h3, h5⟩, by simp [h6], ?_⟩
    intro u hu
    rcases List.mem_cons.1 hu with rfl | hu
    · exact h4
    · exact h7 u hu

theorem cv_ok {v : Value} {x : V} (h : cv v = some x) (ro : Ro) (r : Rho) : VR ro x r v := by
  unfold cv at h
  split at h
  · rename_i cs
    rw [Option.map_eq_some_iff] at h
    obtain ⟨l, h1, rfl⟩ := h
    obtain ⟨h2, h3, h4⟩ := cvL_ok h1 ro r
    simp only [VR]
    exact ⟨cs, rfl, by simpa using h3, h4, h2⟩
  · exact (cv1_ok h ro r).1

theorem opd_ok {g : G} {e : Env} {tm : Array Value} (he : ER g e tm) {x : Operand} {y : Opd} (h : opd x = some y) : VR g.ro (y.ev e) g.rho (evT tm x) := by
  cases x with
  | tmp t => cases h; exact he t
  | const v =>
    simp only [opd, Option.map_eq_some_iff] at h
    obtain ⟨a, h1, rfl⟩ := h
    exact cv_ok h1 _ _
  | global g => cases h
  | func f =>
    cases h
    simp only [Opd.ev, VR, evT]
    exact ⟨_, _, _, rfl, rfl, rfl, rfl, trivial, trivial⟩

theorem opds_ok {g : G} {e : Env} {tm : Array Value} (he : ER g e tm) : ∀ {l : List Operand} {y : List Opd}, opds l = some y →
    PR g.ro (y.map (Opd.ev e)) g.rho (l.map (evT tm)) ∧ y.length = l.length
  | [], y, h => by cases h; simp [PR]
  | x :: l, y, h => by
    simp only [opds, Option.bind_eq_some_iff, Option.map_eq_some_iff] at h
    obtain ⟨z, h1, l', h2, rfl⟩ := h
    obtain ⟨h3, h4⟩ := opds_ok he h2
    exact ⟨⟨_, _, rfl, opd_ok he h1, h3⟩, by simp [h4]⟩

/-! ### small runs -/
section
variable {P : Program} {w : World}
theorem run_sizeOf {t n : Nat} (h : sizeIn P t = some n) : (Go.sizeOf t).run P w = .ok n w := by
  simp only [sizeIn, Option.map_eq_some_iff] at h
  obtain ⟨i, h1, rfl⟩ := h
  simp [Go.sizeOf, Go.typeInfo, h1]
theorem run_zero {t : Nat} {v : Value} (h : zeroIn P t = some v) : (Go.zeroValue t).run P w = .ok v w := by
  simp only [zeroIn, Option.bind_eq_some_iff] at h
  obtain ⟨i, h1, h2⟩ := h
  simp [Go.zeroValue, Go.typeInfo, h1, h2]
theorem run_isAgg {t : Nat} {b : Bool} (h : aggOf P t = some b) : (Go.isAgg t).run P w = .ok b w := by
  unfold aggOf at h
  split at h
  · cases h; rename_i fs hu; simp [Go.isAgg, Go.run_underlying hu]
  · cases h; rename_i n e hu; simp [Go.isAgg, Go.run_underlying hu]
  · cases h
    rename_i d h1 h2 hu
    simp only [Go.isAgg, Sem.run_bind, Go.run_underlying hu, Result.andThen_ok]
    rfl
  · cases h
end

theorem add_none (b o j : Nat) : (⟨b, o, none⟩ : Addr).add j = ⟨b, o + j, none⟩ := by
  unfold Go.Addr.add
  split
  · rename_i h; subst h; rfl
  · rfl

theorem cell_of {w : World} {b : Nat} {arr : Array Value} {e : TypeId} {f : Nat × Nat} (h : w.heap[b]? = some (.cells arr e f)) (o : Nat) : w.cell? ⟨b, o, none⟩ = arr[o]? := by
  simp [World.cell?, h]

theorem frozen_of {w : World} {b : Nat} {arr : Array Value} {e : TypeId} {f : Nat × Nat} (h : w.heap[b]? = some (.cells arr e f)) (o : Nat) (hf : ¬ (f.1 ≤ o ∧ o < f.2)) : w.frozen? ⟨b, o, none⟩ = false := by
  simp only [World.frozen?, h]
  simp only [Bool.and_eq_false_iff, decide_eq_false_iff_not]
  omega

theorem run_loadVar {P : Program} {w : World} {t n : Nat} {g : Bool} {b o : Nat} {arr : Array Value} {e : TypeId} {f : Nat × Nat} (hg : aggOf P t = some g) (hn : sizeIn P t = some n)
    (hb : w.heap[b]? = some (.cells arr e f)) {v : Value} (hv : if g then ((arr.toList.drop o).take n).length = n ∧ v = .agg ((arr.toList.drop o).take n).toArray else arr[o]? = some v) :
    (Go.loadVar t ⟨b, o, none⟩).run P w = .ok v w := by
  cases g with
  | true =>
    obtain ⟨hlen, rfl⟩ := hv
    have := Go.run_loadCells_list (P := P) w ⟨b, o, none⟩ ((arr.toList.drop o).take n) (fun j v hj => by
      rw [add_none, cell_of hb]
      rw [List.getElem?_take] at hj
      split at hj
      · rw [List.getElem?_drop] at hj
        simpa using hj
      · cases hj)
    rw [hlen] at this
    simp [Go.loadVar, run_isAgg hg, run_sizeOf hn, this]
  | false =>
    simp only [Bool.false_eq_true, if_false] at hv
    have hc : w.cell? ⟨b, o, none⟩ = some v := by rw [cell_of hb]; exact hv
    simp [Go.loadVar, run_isAgg hg, hc]

/-- A part of some cells. -/
theorem part_rel {ro : Ro} {h : Rho} {cs : List V} {arr : Array Value} {g : Bool} {n o : Nat} {v : V} (hp : PR ro cs h arr.toList) (h1 : OneL arr.toList) (hg : getPart g n cs o = some v) :
    ∃ v', (if g then ((arr.toList.drop o).take n).length = n ∧ v' = .agg ((arr.toList.drop o).take n).toArray else arr[o]? = some v') ∧ VR ro v h v' := by
  unfold getPart at hg
  have hl := hp.len
  cases g with
  | true =>
    simp only [if_true] at hg
    split at hg
    · rename_i hle
      cases hg
      refine ⟨_, ⟨by simp at hl ⊢; omega, rfl⟩, ?_⟩
      simp only [VR]
      refine ⟨_, rfl, ?_, ?_, ?_⟩
      · simp at hl ⊢; omega
      · intro u hu; exact h1 u (List.mem_of_mem_drop (List.mem_of_mem_take (by simpa using hu)))
      · simpa using (hp.drop o).take n
    · cases hg
  | false =>
    simp only [Bool.false_eq_true, if_false] at hg
    obtain ⟨v', h2, h3⟩ := hp.get hg
    exact ⟨v', by simpa using h2, h3⟩

/-- Some values in the place of others. -/
def spliceL (l : List Value) (o : Nat) (vs : List Value) : List Value := l.take o ++ vs ++ l.drop (o + vs.length)

theorem spliceL_len (l : List Value) (o : Nat) (vs : List Value) (h : o + vs.length ≤ l.length) : (spliceL l o vs).length = l.length := by
  simp [spliceL]; omega

theorem spliceL_cons (l : List Value) (o : Nat) (v : Value) (vs : List Value) (h : o < l.length) : spliceL (l.set o v) (o + 1) vs = spliceL l o (v :: vs) := by
  unfold spliceL
  rw [List.take_set, List.drop_set]
  rw [if_pos (by omega)]
  simp only [List.length_cons]
  rw [show o + 1 + vs.length = o + (vs.length + 1) by omega]
  congr 1
  rw [List.take_succ_eq_append_getElem h, List.set_append]
  simp [List.length_take, Nat.min_eq_left (Nat.le_of_lt h)]

theorem PR.splice {ro : Ro} {h : Rho} {cs xs : List V} {l vs : List Value} {o : Nat} (r : PR ro cs h l) (r' : PR ro xs h vs) (hl : xs.length = vs.length) (ho : o + xs.length ≤ cs.length) :
    PR ro (Pi.splice cs o xs) h (spliceL l o vs) := by
  have := r.len
  unfold Pi.splice spliceL
  rw [← hl]
  exact ((r.take o).append (by simp; omega) r').append (by simp; omega) (r.drop _)

theorem OneL.splice {l vs : List Value} {o : Nat} (h : OneL l) (k : OneL vs) : OneL (spliceL l o vs) := by
  intro v hv
  simp only [spliceL, List.mem_append] at hv
  rcases hv with (hv | hv) | hv
  · exact h v (List.mem_of_mem_take hv)
  · exact k v hv
  · exact h v (List.mem_of_mem_drop hv)

theorem heap_setCell_at {w : World} {b o : Nat} {arr : Array Value} {e : TypeId} {f : Nat × Nat} (h : w.heap[b]? = some (.cells arr e f)) (v : Value) :
    (w.setCell ⟨b, o, none⟩ v).heap[b]? = some (.cells (arr.setIfInBounds o v) e f) := by
  simp [World.setCell, Array.getElem?_modify, h]

theorem heap_setCell_ne {w : World} {b o c : Nat} (v : Value) (h : c ≠ b) : (w.setCell ⟨b, o, none⟩ v).heap[c]? = w.heap[c]? := by
  simp only [World.setCell, Array.getElem?_modify]
  rw [if_neg (by omega)]

theorem WB.setCell (w : World) (a : Addr) (v : Value) : WB w (w.setCell a v) := ⟨rfl, rfl, rfl, by simp⟩

theorem run_storeCells {P : Program} {b o : Nat} {e : TypeId} {f : Nat × Nat} : ∀ (vs : List Value) (i : Nat) (w : World) (arr : Array Value), w.heap[b]? = some (.cells arr e f) →
    o + i + vs.length ≤ arr.size → OneL vs → (∀ j, j < arr.size → ¬ (f.1 ≤ j ∧ j < f.2)) →
    ∃ w', (Go.storeCells ⟨b, o, none⟩ vs i).run P w = .ok () w' ∧ w'.heap[b]? = some (.cells (spliceL arr.toList (o + i) vs).toArray e f) ∧
      (∀ c, c ≠ b → w'.heap[c]? = w.heap[c]?) ∧ WB w w'
  | [], i, w, arr, hb, _, _, _ => by
    refine ⟨w, by simp [Go.storeCells], ?_, fun _ _ => rfl, WB.refl w⟩
    rw [hb]
    simp [spliceL]
  | v :: vs, i, w, arr, hb, hl, h1, hf => by
    have hlt : o + i < arr.size := by simp at hl; omega
    have hc : w.cell? ⟨b, o + i, none⟩ = some arr[o + i] := by rw [cell_of hb]; simp [hlt]
    have hfr := frozen_of hb (o + i) (hf _ hlt)
    have hv := h1 v (by simp)
    obtain ⟨w', k1, k2, k3, k4⟩ := run_storeCells (P := P) (b := b) (o := o) (e := e) (f := f) vs (i + 1) (w.setCell ⟨b, o + i, none⟩ v) (arr.setIfInBounds (o + i) v) (heap_setCell_at hb v)
      (by simp at hl ⊢; omega) (fun u hu => h1 u (by simp [hu])) (fun j hj => hf j (by simpa using hj))
    refine ⟨w', ?_, ?_, fun c hcb => (k3 c hcb).trans (heap_setCell_ne v hcb), (WB.setCell w _ v).trans k4⟩
    · simp [Go.storeCells, add_none, Go.run_store P w _ v _ hv, hc, hfr, k1]
    · rw [k2]
      congr 2
      rw [Array.toList_setIfInBounds, show o + (i + 1) = o + i + 1 by omega, spliceL_cons _ _ _ _ (by simpa using hlt)]

/-- The cells of a value that may be put into cells. -/
theorem cells_rel {ro : Ro} {h : Rho} {x : V} {v : Value} (r : VR ro x h v) (hs : x.stor = true) : PR ro x.cells h v.cells.toList ∧ x.cells.length = v.cells.size ∧ OneL v.cells.toList := by
  have sc : ∀ {y : V} {u : Value}, y.cells = [y] → u.cells = #[u] → u.oneCell' = true → VR ro y h u → PR ro y.cells h u.cells.toList ∧ y.cells.length = u.cells.size ∧ OneL u.cells.toList := by
    intro y u e1 e2 e3 e4
    rw [e1, e2]
    refine ⟨⟨u, [], rfl, e4, trivial⟩, rfl, ?_⟩
    intro z hz
    simp at hz
    subst hz
    exact e3
  cases x with
  | ag cs =>
    simp only [VR] at r
    obtain ⟨arr, rfl, h1, h2, h3⟩ := r
    exact ⟨h3, h1, h2⟩
  | tu cs => cases hs
  | un => cases hs
  | b x => simp only [VR] at r; subst r; exact sc rfl rfl rfl (by simp [VR])
  | i k n => simp only [VR] at r; subst r; exact sc rfl rfl rfl (by simp [VR])
  | s x => simp only [VR] at r; subst r; exact sc rfl rfl rfl (by simp [VR])
  | np => simp only [VR] at r; subst r; exact sc rfl rfl rfl (by simp [VR])
  | nm => simp only [VR] at r; subst r; exact sc rfl rfl rfl (by simp [VR])
  | nf => simp only [VR] at r; subst r; exact sc rfl rfl rfl (by simp [VR])
  | ni => simp only [VR] at r; subst r; exact sc rfl rfl rfl (by simp [VR])
  | p l off => have r' := r; simp only [VR] at r; obtain ⟨_, _, _, rfl⟩ := r; exact sc rfl rfl rfl r'
  | rp cs => have r' := r; simp only [VR] at r; obtain ⟨_, _, _, _, _, rfl, _⟩ := r; exact sc rfl rfl rfl r'
  | ns => have r' := r; simp only [VR] at r; obtain ⟨_, rfl⟩ := r; exact sc rfl rfl rfl r'
  | sl cs len => have r' := r; simp only [VR] at r; obtain ⟨_, _, rfl, _⟩ := r; exact sc rfl rfl rfl r'
  | ms l off len esz => have r' := r; simp only [VR] at r; obtain ⟨_, _, _, _, rfl, _⟩ := r; exact sc rfl rfl rfl r'
  | mp l => have r' := r; simp only [VR] at r; obtain ⟨_, _, _, rfl⟩ := r; exact sc rfl rfl rfl r'
  | rm ks vs =>
    have r' := r
    simp only [VR] at r
    rcases r with ⟨_, _, rfl⟩ | ⟨_, _, _, rfl, _⟩ | ⟨_, _, _, rfl, _⟩ <;> exact sc rfl rfl rfl r'
  | fn f a c => have r' := r; simp only [VR] at r; obtain ⟨_, _, _, rfl, _⟩ := r; exact sc rfl rfl rfl r'
  | fc t x => have r' := r; simp only [VR] at r; obtain ⟨_, rfl, _⟩ := r; exact sc rfl rfl rfl r'

end Pi


/- The machine's operations against the pure ones: what makes, reads and writes memory. -/
namespace Pi
open Go (IntKind TypeId FuncId Fn BinOp UnOp LoopState Value Addr World Program undef Operand Sem Result)

/-- What an operation comes to: a value, a world. -/
def GoodV (P : Program) (g : G) (m : Sto) (w : World) (slot : Nat) (v : V) (ws : Ws) (r : Result Value) : Prop :=
  ∃ v' w' h', r = .ok v' w' ∧ RhoE g.rho h' ∧ (∀ l, l ≠ slot → h' l = g.rho l) ∧ VR g.ro v h' v' ∧ WR P { g with rho := h' } (m.app ws) w' ∧ WB w w'

def GoodU (P : Program) (g : G) (m : Sto) (w : World) (slot : Nat) (ws : Ws) (r : Result Unit) : Prop :=
  ∃ w' h', r = .ok () w' ∧ RhoE g.rho h' ∧ (∀ l, l ≠ slot → h' l = g.rho l) ∧ WR P { g with rho := h' } (m.app ws) w' ∧ WB w w'

/-- As the machine goes on with it. -/
def Good (P : Program) (g : G) (m : Sto) (w : World) (slot : Nat) (v : V) (ws : Ws) (r : Result Go.Next) : Prop :=
  ∃ v' w' h', (r = .ok (.value v') w' ∨ (r = .ok .skip w' ∧ v' = undef)) ∧ RhoE g.rho h' ∧ (∀ l, l ≠ slot → h' l = g.rho l) ∧ VR g.ro v h' v' ∧
    WR P { g with rho := h' } (m.app ws) w' ∧ WB w w'

section
variable {P : Program} {g : G} {m : Sto} {w : World} {slot : Nat}

theorem GoodV.good {v : V} {ws : Ws} {s : Sem Value} (h : GoodV P g m w slot v ws (s.run P w)) :
    Good P g m w slot v ws ((do pure (.value (← s)) : Sem Go.Next).run P w) := by
  obtain ⟨v', w', h', h1, h2⟩ := h
  exact ⟨v', w', h', .inl (by simp [h1]), h2⟩

theorem GoodU.good {v : V} {ws : Ws} {s : Sem Unit} (h : GoodU P g m w slot ws (s.run P w)) (hv : v = .un) :
    Good P g m w slot v ws ((do s; pure .skip : Sem Go.Next).run P w) := by
  obtain ⟨w', h', h1, h2, h3, h4⟩ := h
  exact ⟨undef, w', h', .inr ⟨by simp [h1], rfl⟩, h2, h3, by subst hv; simp [VR], h4⟩

theorem GoodV.pure {v : V} {v' : Value} (hw : WR P g m w) (hv : VR g.ro v g.rho v') {r : Result Value} (hr : r = .ok v' w) : GoodV P g m w slot v [] r :=
  ⟨v', w, g.rho, hr, RhoE.refl _, fun _ _ => rfl, hv, hw, WB.refl w⟩

theorem WR.keep_size (hw : WR P g m w) : g.keep w.heap.size = none := by
  cases h : g.keep w.heap.size with
  | none => rfl
  | some o =>
    have := (Array.getElem?_eq_some_iff.1 (hw.keep _ _ h)).1
    omega

theorem WB.push (w : World) (o : Go.Obj) : WB w { w with heap := w.heap.push o } := ⟨rfl, rfl, rfl, by simp⟩

theorem heap_push_lt {w : World} {o : Go.Obj} {b : Nat} (h : b < w.heap.size) : ({ w with heap := w.heap.push o } : World).heap[b]? = w.heap[b]? := by
  simp only [Array.getElem?_push]
  rw [if_neg (by omega)]

/-- New cells. -/
theorem newCells (hw : WR P g m w) (hm : g.rho slot = none) {cs : List V} {cells : Array Value} (hp : PR g.ro cs g.rho cells.toList) (h1 : OneL cells.toList) (t : TypeId) :
    WR P { g with rho := g.rho.set slot (w.heap.size, cells.size) } (m.set slot (some (.cells cs false))) { w with heap := w.heap.push (.cells cells t) } := by
  refine WR.new hw hm (fun b hb => heap_push_lt hb) ?_
  refine ⟨cells, t, (0, 0), by simp, rfl, h1, PR.mono (RoE.refl _) cs (Rho.set_ext hm) hp, fun i _ => by simp, ?_⟩
  simp only [Bool.false_eq_true, if_false]
  exact hw.keep_size

theorem newLit (hw : WR P g m w) (hm : g.rho slot = none) {cs : List V} {cells : Array Value} (hp : PR g.ro cs g.rho cells.toList) (h1 : OneL cells.toList) (hl : cs.length = cells.size) (t : TypeId) (esz : Nat) :
    WR P { g with rho := g.rho.set slot (w.heap.size, cells.size) } (m.set slot (some (litO esz cs))) { w with heap := w.heap.push (.cells cells t) } := by
  have h := newCells hw hm hp h1 t
  unfold litO
  split
  · split
    · refine WR.new hw hm (fun b hb => heap_push_lt hb) ?_
      exact ⟨cells, t, (0, 0), by simp, rfl, h1, PR.mono (RoE.refl _) _ (Rho.set_ext hm) hp, fun i _ => by simp, hw.keep_size, hl⟩
    · exact h
  · exact h

theorem rho_set_same (h : Rho) (l : Nat) (r : Nat × Nat) : h.set l r l = some r := by simp [Rho.set]
theorem rho_set_ne (h : Rho) {l k : Nat} (r : Nat × Nat) (e : k ≠ l) : h.set l r k = h k := by simp [Rho.set, e]

theorem good_newVar (hw : WR P g m w) (hm : g.rho slot = none) {cs : List V} {v : Value} (hp : PR g.ro cs g.rho v.cells.toList) (h1 : OneL v.cells.toList) (t : TypeId) {s : Sem Value}
    (hs : s.run P w = .ok (.pointer (some ⟨w.heap.size, 0, none⟩)) { w with heap := w.heap.push (.cells v.cells t) }) :
    GoodV P g m w slot (.p slot 0) [(slot, some (.cells cs false))] (s.run P w) := by
  refine ⟨_, _, g.rho.set slot (w.heap.size, v.cells.size), hs, Rho.set_ext hm, fun l hl => rho_set_ne _ _ hl, ?_, newCells hw hm hp h1 t, WB.push _ _⟩
  simp only [VR]
  exact ⟨_, _, rho_set_same _ _ _, rfl⟩

theorem good_alloc (hw : WR P g m w) (hm : g.rho slot = none) {t : TypeId} {z : List V} (hz : zeroL P t = some z) :
    GoodV P g m w slot (.p slot 0) [(slot, some (.cells z false))] ((Go.Instr.alloc t true (.tuple #[])).run P w) := by
  simp only [zeroL, Option.bind_eq_some_iff] at hz
  obtain ⟨v, h1, h2⟩ := hz
  obtain ⟨h3, h4, h5⟩ := cvL_ok h2 g.ro g.rho
  refine good_newVar hw hm h3 h5 t ?_
  simp [Go.Instr.alloc, run_zero h1, Go.newVar, Go.newRow]

theorem good_box (hw : WR P g m w) (hm : g.rho slot = none) {t : TypeId} {x : V} {v : Value} (hx : VR g.ro x g.rho v) (hs : x.stor = true) :
    GoodV P g m w slot (.p slot 0) [(slot, some (.cells x.cells false))] ((Go.Instr.box t v).run P w) := by
  obtain ⟨h1, h2, h3⟩ := cells_rel hx hs
  refine good_newVar hw hm h1 h3 t ?_
  simp [Go.Instr.box, Go.newVar, Go.newRow]

theorem good_load (hw : WR P g m w) {t n : Nat} {ag : Bool} (hg : aggOf P t = some ag) (hn : sizeIn P t = some n) {x v : V} {ws : Ws} {a : Value} (hx : VR g.ro x g.rho a)
    (h : (match (generalizing := false) x with
      | .p l off => match m l with
        | some (.cells cs _) => (getPart ag n cs off).map fun v => (v, ([] : Ws))
        | some (.lit cs) => (getPart ag n cs off).map fun v => (v, ([] : Ws))
        | some (.tc _ cs) => (getPart ag n cs off).map fun v => (v, ([] : Ws))
        | _ => none
      | .rp cs => (getPart ag n cs 0).map fun v => (v, [])
      | _ => none) = some (v, ws)) : GoodV P g m w slot v ws ((Go.Instr.loadAt t a).run P w) := by
  cases x with
  | p l off =>
    dsimp only at h
    split at h
    · rename_i cs r hm
      simp only [Option.map_eq_some_iff, Prod.mk.injEq] at h
      obtain ⟨u, h1, rfl, rfl⟩ := h
      simp only [VR] at hx
      obtain ⟨b, k, h2, rfl⟩ := hx
      obtain ⟨b', k', h3, arr, e, f, h4, h5, h6, h7, h8⟩ := hw.obj l _ hm
      rw [h2] at h3
      cases h3
      obtain ⟨v', h9, h10⟩ := part_rel h7 h6 h1
      refine GoodV.pure hw h10 ?_
      simp [Go.Instr.loadAt, Go.Instr.sureAddr, run_loadVar hg hn h4 h9]
    · rename_i cs hm
      simp only [Option.map_eq_some_iff, Prod.mk.injEq] at h
      obtain ⟨u, h1, rfl, rfl⟩ := h
      simp only [VR] at hx
      obtain ⟨b, k, h2, rfl⟩ := hx
      obtain ⟨b', k', h3, arr, e, f, h4, h5, h6, h7, h8⟩ := hw.obj l _ hm
      rw [h2] at h3
      cases h3
      obtain ⟨v', h9, h10⟩ := part_rel h7 h6 h1
      refine GoodV.pure hw h10 ?_
      simp [Go.Instr.loadAt, Go.Instr.sureAddr, run_loadVar hg hn h4 h9]
    · rename_i T cs hm
      simp only [Option.map_eq_some_iff, Prod.mk.injEq] at h
      obtain ⟨u, h1, rfl, rfl⟩ := h
      simp only [VR] at hx
      obtain ⟨b, k, h2, rfl⟩ := hx
      obtain ⟨b', k', h3, h0⟩ := hw.obj l _ hm
      obtain ⟨arr, e, f, h4, h5, h6, h7, h8⟩ := h0.tcells
      rw [h2] at h3
      cases h3
      obtain ⟨v', h9, h10⟩ := part_rel h7 h6 h1
      refine GoodV.pure hw h10 ?_
      simp [Go.Instr.loadAt, Go.Instr.sureAddr, run_loadVar hg hn h4 h9]
    · cases h
  | rp cs =>
    simp only [Option.map_eq_some_iff, Prod.mk.injEq] at h
    obtain ⟨u, h1, rfl, rfl⟩ := h
    simp only [VR] at hx
    obtain ⟨b, o, arr, e, f, rfl, h2, h3, h4⟩ := hx
    have hb := hw.keep _ _ (hw.ro _ _ h2)
    have h4' : PR g.ro cs (fun _ => none) ((arr.toList.drop o).take cs.length) := by
      have := h4.take cs.length
      rwa [List.take_length] at this
    have hn4 : ag = true → n ≤ cs.length := by
      intro ha
      subst ha
      simp only [getPart, if_true] at h1
      split at h1
      · omega
      · cases h1
    have hn5 : ag = false → 0 < cs.length := by
      intro ha
      subst ha
      simp only [getPart, Bool.false_eq_true, if_false] at h1
      cases cs with
      | nil => simp at h1
      | cons a b => simp
    obtain ⟨v', h5, h6⟩ := part_rel (arr := ((arr.toList.drop o).take cs.length).toArray) (by simpa using h4') (by simpa using h3) h1
    refine GoodV.pure hw (VR.mono (RoE.refl _) _ (fun _ _ e => by cases e) h6) ?_
    have h9 : if ag then ((arr.toList.drop o).take n).length = n ∧ v' = .agg ((arr.toList.drop o).take n).toArray else arr[o]? = some v' := by
      cases ag with
      | true =>
        have hn6 := hn4 rfl
        simp only [if_true, List.toList_toArray, List.drop_zero, List.take_take, Nat.min_eq_left hn6] at h5 ⊢
        exact h5
      | false =>
        have hn6 := hn5 rfl
        simp only [Bool.false_eq_true, if_false] at h5 ⊢
        simp [List.getElem?_take, hn6] at h5
        exact h5
    simp [Go.Instr.loadAt, Go.Instr.sureAddr, run_loadVar hg hn hb h9]
  | _ => cases h

theorem splice_len {cs vs : List V} {o : Nat} (h : o + vs.length ≤ cs.length) : (splice cs o vs).length = cs.length := by
  unfold splice
  simp
  omega
theorem good_store (hw : WR P g m w) {t n : Nat} (hn : sizeIn P t = some n) {x y v : V} {ws : Ws} {a u : Value} (hx : VR g.ro x g.rho a) (hy : VR g.ro y g.rho u)
    (h : (match (generalizing := false) x with
      | .p l off => match m l with
        | some (.cells cs false) => if y.cells.length = n ∧ off + n ≤ cs.length ∧ y.stor then some (V.un, [(l, some (PObj.cells (splice cs off y.cells) false))]) else none
        | some (.tc T cs) => if y.cells.length = n ∧ off + n ≤ cs.length ∧ y.stor then some (V.un, [(l, some (PObj.tc T (splice cs off y.cells)))]) else none
        | _ => none
      | _ => none) = some (v, ws)) : v = .un ∧ GoodU P g m w slot ws ((Go.Instr.storeAt t a u).run P w) := by
  cases x with
  | p l off =>
    dsimp only at h
    split at h
    · rename_i cs hm
      split at h
      · rename_i hc
        obtain ⟨hc1, hc2, hc3⟩ := hc
        simp only [Option.some.injEq, Prod.mk.injEq] at h
        obtain ⟨rfl, rfl⟩ := h
        refine ⟨rfl, ?_⟩
        simp only [VR] at hx
        obtain ⟨b, k, h2, rfl⟩ := hx
        obtain ⟨b', k', h3, arr, e, f, h4, h5, h6, h7, h8, h9⟩ := hw.obj l _ hm
        rw [h2] at h3
        cases h3
        obtain ⟨c1, c2, c3⟩ := cells_rel hy hc3
        have hlen := h7.len
        obtain ⟨w', k1, k2, k3, k4⟩ := run_storeCells (P := P) (b := b) (o := off) (e := e) (f := f) u.cells.toList 0 w arr h4 (by simp at hlen ⊢; omega) c3 (by rw [h5]; exact h8)
        have hsz : (spliceL arr.toList (off + 0) u.cells.toList).length = arr.size := by
          rw [spliceL_len _ _ _ (by simp at hlen ⊢; omega)]; simp
        refine ⟨w', g.rho, ?_, RhoE.refl _, fun _ _ => rfl, ?_, k4⟩
        · have hne : ¬ u.cells.size ≠ n := by omega
          simp [Go.Instr.storeAt, Go.Instr.sureAddr, Go.storeVar, run_sizeOf hn, k1, ← c2, hc1]
        · refine WR.put hw hm h2 (by simpa using h9) k3 ?_
          refine ⟨_, e, f, k2, ?_, ?_, ?_, h8, h9⟩
          · rw [← h5]; simpa using hsz
          · simpa using h6.splice c3
          · simpa using h7.splice c1 (by simpa using c2) (by omega)
      · cases h
    · rename_i T cs hm
      split at h
      · rename_i hc
        obtain ⟨hc1, hc2, hc3⟩ := hc
        simp only [Option.some.injEq, Prod.mk.injEq] at h
        obtain ⟨rfl, rfl⟩ := h
        refine ⟨rfl, ?_⟩
        simp only [VR] at hx
        obtain ⟨b, k, h2, rfl⟩ := hx
        obtain ⟨b', k', h3, arr, f, h4, h5, h6, h7, h8, h9, h10⟩ := hw.obj l _ hm
        rw [h2] at h3
        cases h3
        obtain ⟨c1, c2, c3⟩ := cells_rel hy hc3
        have hlen := h7.len
        obtain ⟨w', k1, k2, k3, k4⟩ := run_storeCells (P := P) (b := b) (o := off) (e := T) (f := f) u.cells.toList 0 w arr h4 (by simp at hlen ⊢; omega) c3 (by rw [h5]; exact h8)
        have hsz : (spliceL arr.toList (off + 0) u.cells.toList).length = arr.size := by
          rw [spliceL_len _ _ _ (by simp at hlen ⊢; omega)]; simp
        refine ⟨w', g.rho, ?_, RhoE.refl _, fun _ _ => rfl, ?_, k4⟩
        · have hne : ¬ u.cells.size ≠ n := by omega
          simp [Go.Instr.storeAt, Go.Instr.sureAddr, Go.storeVar, run_sizeOf hn, k1, ← c2, hc1]
        · refine WR.put hw hm h2 (by simpa using h9) k3 ?_
          refine ⟨_, f, k2, ?_, ?_, ?_, h8, h9, fun ht => by rw [splice_len (by omega), h10 ht]⟩
          · rw [← h5]; simpa using hsz
          · simpa using h6.splice c3
          · simpa using h7.splice c1 (by simpa using c2) (by omega)
      · cases h
    · cases h
  | _ => cases h

end
end Pi


/- The machine's operations against the pure ones: structs, slices' literals. -/
namespace Pi
open Go (IntKind TypeId FuncId Fn BinOp UnOp LoopState Value Addr World Program undef Operand Sem Result)

theorem foldl_splice (off : Nat) : ∀ (l : List Value) (k : Nat) (cells : Array Value), off + k + l.length ≤ cells.size →
    ((l.zipIdx k).foldl (fun (cs : Array Value) (p : Value × Nat) => cs.setIfInBounds (off + p.2) p.1) cells).toList = spliceL cells.toList (off + k) l
  | [], k, cells, _ => by simp [spliceL]
  | v :: l, k, cells, h => by
    simp only [List.zipIdx_cons, List.foldl_cons]
    rw [foldl_splice off l (k + 1) _ (by simp at h ⊢; omega)]
    rw [Array.toList_setIfInBounds, show off + (k + 1) = off + k + 1 by omega, spliceL_cons _ _ _ _ (by simp at h ⊢; omega)]

def PartsR (place : Nat → Option (Nat × Nat)) : List (Nat × Operand) → List (Nat × Nat × Opd) → Prop
  | [], [] => True
  | (j, x) :: r, (off, n, y) :: l => place j = some (off, n) ∧ opd x = some y ∧ PartsR place r l
  | _, _ => False

theorem fill_ok {g : G} {e : Env} {tm : Array Value} (he : ER g e tm) {place : Nat → Option (Nat × Nat)} : ∀ (ps : List (Nat × Operand)) (l : List (Nat × Nat × Opd)) (z cs : List V) (cells : Array Value),
    PartsR place ps l → fill e z l = some cs → PR g.ro z g.rho cells.toList → z.length = cells.size → OneL cells.toList →
    ∃ cells', Go.Instr.fill place cells (ps.map fun p => (p.1, evT tm p.2)) = some cells' ∧ PR g.ro cs g.rho cells'.toList ∧ cs.length = cells'.size ∧ OneL cells'.toList ∧ cs.length = z.length
  | [], [], z, cs, cells, _, h, h1, h2, h3 => by
    cases h
    exact ⟨cells, rfl, h1, h2, h3, rfl⟩
  | (j, x) :: r, (off, n, y) :: l, z, cs, cells, hp, h, h1, h2, h3 => by
    obtain ⟨p1, p2, p3⟩ := hp
    simp only [fill] at h
    split at h
    · rename_i hc
      obtain ⟨c1, c2, c3⟩ := hc
      have hy := opd_ok he p2
      obtain ⟨d1, d2, d3⟩ := cells_rel hy c3
      have hsz : (spliceL cells.toList off (evT tm x).cells.toList).length = cells.size := by
        rw [spliceL_len _ _ _ (by simp; omega)]; simp
      obtain ⟨cells', k1, k2⟩ := fill_ok he r l (splice z off (y.ev e).cells) cs (spliceL cells.toList off (evT tm x).cells.toList).toArray p3 h
        (by simpa using h1.splice d1 (by simpa using d2) (by omega)) (by simp [splice]; rw [hsz]; omega) (by simpa using h3.splice d3)
      refine ⟨cells', ?_, k2.1, k2.2.1, k2.2.2.1, k2.2.2.2.trans (by simp [splice]; omega)⟩
      simp only [List.map_cons, Go.Instr.fill, p1]
      have hne : ¬ ((evT tm x).cells.size ≠ n ∨ off + (evT tm x).cells.size > cells.size) := by omega
      simp only [ne_eq, decide_not, Bool.or_eq_true, Bool.not_eq_true', decide_eq_false_iff_not, decide_eq_true_eq]
      rw [if_neg (by omega)]
      rw [← k1]
      congr 1
      apply Array.ext'
      have := foldl_splice off (evT tm x).cells.toList 0 cells (by simp; omega)
      simp only [Nat.add_zero] at this
      rw [← Array.foldl_toList, Array.toList_zipIdx]
      simpa using this
    · cases h
  | [], _ :: _, _, _, _, hp, _, _, _, _ => by cases hp
  | _ :: _, [], _, _, _, hp, _, _, _, _ => by cases hp

section
variable {P : Program} {g : G} {m : Sto} {w : World} {slot : Nat}

theorem _root_.Pi.WR.push (hw : WR P g m w) (o : Go.Obj) : WR P g m { w with heap := w.heap.push o } :=
  ⟨fun l q hl => let ⟨b, n, h1, h2⟩ := hw.obj l q hl; ⟨b, n, h1, h2.mono (RhoE.refl _) (RoE.refl _) id (heap_push_lt h2.lt)⟩, hw.inj, hw.ro, fun b q hk => by
    have := hw.keep b q hk
    rw [heap_push_lt (Array.getElem?_eq_some_iff.1 this).1]
    exact this⟩

theorem parts_ok {fs : Array Go.Field} {places : Array (Nat × Nat)} : ∀ {ps : List (Nat × Operand)} {l}, parts P fs ps = some l →
    (∀ (j : Nat) (f : Go.Field) n, fs[j]? = some f → sizeIn P f.type = some n → places[j]? = some (f.offset, n)) → PartsR (places[·]?) ps l
  | [], l, h, _ => by cases h; trivial
  | (j, x) :: r, l, h, hp => by
    simp only [parts, Option.bind_eq_some_iff, Option.map_eq_some_iff] at h
    obtain ⟨f, h1, n, h2, y, h3, l', h4, rfl⟩ := h
    exact ⟨hp j f n h1 h2, h3, parts_ok h4 hp⟩

theorem partsA_ok {size : Nat} : ∀ {ps : List (Nat × Operand)} {l}, partsA size ps = some l → PartsR (fun i => some (i * size, size)) ps l
  | [], l, h => by cases h; trivial
  | (j, x) :: r, l, h => by
    simp only [partsA, Option.bind_eq_some_iff, Option.map_eq_some_iff] at h
    obtain ⟨y, h3, l', h4, rfl⟩ := h
    exact ⟨rfl, h3, partsA_ok h4⟩

/-- The fields' places: where each size is known. -/
theorem run_places : ∀ (fs : List Go.Field), (∀ f ∈ fs, ∃ n, sizeIn P f.type = some n) →
    ∃ l : List (Nat × Nat), (fs.mapM (m := Sem) fun (f : Go.Field) => do pure (f.offset, ← Go.sizeOf f.type)).run P w = .ok l w ∧
      l.length = fs.length ∧ ∀ (j : Nat) (f : Go.Field) n, fs[j]? = some f → sizeIn P f.type = some n → l[j]? = some (f.offset, n)
  | [], _ => ⟨[], by simp, rfl, fun j f n h => by simp at h⟩
  | f :: fs, h => by
    obtain ⟨n, hn⟩ := h f (by simp)
    obtain ⟨l, h1, h2, h3⟩ := run_places fs (fun f hf => h f (by simp [hf]))
    refine ⟨(f.offset, n) :: l, ?_, by simp [h2], ?_⟩
    · simp only [List.mapM_cons, Sem.run_bind, run_sizeOf hn, Result.andThen_ok, Sem.run_pure, h1]
    · intro j f' n' hj hn'
      cases j with
      | zero =>
        simp at hj
        subst hj
        rw [hn] at hn'
        cases hn'
        rfl
      | succ j => simpa using h3 j f' n' (by simpa using hj) hn'

theorem good_build (hw : WR P g m w) {e : Env} {tm : Array Value} (he : ER g e tm) {t : TypeId} {ps : Array (Nat × Operand)} {z cs : List V} (hz : zeroL P t = some z) {l : List (Nat × Nat × Opd)}
    (hl : (match P.underlying t with
      | some (.struct fs) => if fs.toList.all (fun f => (sizeIn P f.type).isSome) then parts P fs ps.toList else none
      | some (.array _ e) => (sizeIn P e).bind fun n => partsA n ps.toList
      | _ => none) = some l) (h : fill e z l = some cs) :
    GoodV P g m w slot (.ag cs) [] ((Go.Instr.build t (ps.map fun p => (p.1, evT tm p.2))).run P w) := by
  simp only [zeroL, Option.bind_eq_some_iff] at hz
  obtain ⟨zv, h1, h2⟩ := hz
  obtain ⟨h3, h4, h5⟩ := cvL_ok h2 g.ro g.rho
  split at hl
  · rename_i fs hu
    split at hl
    · rename_i hall
      obtain ⟨pl, p1, p2, p3⟩ := run_places (P := P) (w := w) fs.toList (fun f hf => by
        have := List.all_eq_true.1 hall f hf
        exact Option.isSome_iff_exists.1 this)
      obtain ⟨cells', k1, k2, k3, k4, k5⟩ := fill_ok he ps.toList l z cs zv.cells (parts_ok (places := pl.toArray) hl (fun j f n hj hn => by simpa using p3 j f n (by simpa using hj) hn)) h h3 (by simpa using h4) h5
      refine GoodV.pure hw (v' := .agg cells') ?_ ?_
      · simp only [VR]; exact ⟨cells', rfl, k3, k4, k2⟩
      · simp only [Go.Instr.build, Sem.run_bind, run_zero h1, Result.andThen_ok, Go.run_underlying hu]
        rw [show fs.mapM (m := Sem) (fun f => do pure (f.offset, ← Go.sizeOf f.type)) = (List.toArray <$> fs.toList.mapM (m := Sem) fun f => do pure (f.offset, ← Go.sizeOf f.type)) from by
          rw [Array.mapM_eq_mapM_toList]]
        simp only [Sem.run_map, p1, Result.andThen_ok, Array.toList_map, k1, Sem.run_pure]
    · cases hl
  · rename_i n et hu
    simp only [Option.bind_eq_some_iff] at hl
    obtain ⟨sz, h6, h7⟩ := hl
    obtain ⟨cells', k1, k2, k3, k4, k5⟩ := fill_ok he ps.toList l z cs zv.cells (partsA_ok h7) h h3 (by simpa using h4) h5
    refine GoodV.pure hw (v' := .agg cells') ?_ ?_
    · simp only [VR]; exact ⟨cells', rfl, k3, k4, k2⟩
    · simp only [Go.Instr.build, Sem.run_bind, run_zero h1, Result.andThen_ok, Go.run_underlying hu, run_sizeOf h6, Array.toList_map, k1, Sem.run_pure]
  · cases hl

theorem zeros_len (z : List V) : ∀ n, (zeros z n).length = n * z.length
  | 0 => by simp [zeros]
  | n + 1 => by simp [zeros, zeros_len z n, Nat.succ_mul]; omega

theorem zeros_get (z : List V) : ∀ n i, i < n * z.length → (zeros z n)[i]? = z[i % z.length]?
  | 0, i, h => by simp at h
  | n + 1, i, h => by
    simp only [zeros]
    by_cases hi : i < z.length
    · rw [List.getElem?_append_left hi, Nat.mod_eq_of_lt hi]
    · rw [List.getElem?_append_right (by omega), zeros_get z n (i - z.length) (by rw [Nat.succ_mul] at h; omega)]
      rw [← Nat.mod_eq_sub_mod (by omega)]

theorem zeros_rel {ro : Ro} {h : Rho} {z : List V} {zv : Array Value} (hz : PR ro z h zv.toList) (hl : z.length = zv.size) (h1 : OneL zv.toList) (n k : Nat) (hk : k = n * z.length) :
    PR ro (zeros z n) h ((Array.range k).map (zv[· % zv.size]!)).toList ∧ (zeros z n).length = ((Array.range k).map (zv[· % zv.size]!)).size ∧ OneL ((Array.range k).map (zv[· % zv.size]!)).toList := by
  subst hk
  refine ⟨.mk (by simp [zeros_len]) fun i c v hc hv => ?_, by simp [zeros_len], ?_⟩
  · have hi : i < n * z.length := by
      rcases Nat.lt_or_ge i (zeros z n).length with h | h
      · rwa [zeros_len] at h
      · rw [List.getElem?_eq_none h] at hc; cases hc
    rw [zeros_get z n i hi] at hc
    have hpos : 0 < z.length := by
      rcases Nat.eq_zero_or_pos z.length with h | h
      · rw [h] at hi; simp at hi
      · exact h
    have hm : i % zv.size < zv.size := Nat.mod_lt _ (by omega)
    simp [hi] at hv
    subst hv
    rw [hl] at hc
    have := hz.at hc (v := zv[i % zv.size]!) (by simp [hm])
    exact this
  · intro v hv
    simp at hv
    obtain ⟨i, hi, rfl⟩ := hv
    have hpos : 0 < zv.size := by
      rcases Nat.eq_zero_or_pos zv.size with h | h
      · rw [hl, h] at hi; simp at hi
      · exact h
    have hm : i % zv.size < zv.size := Nat.mod_lt _ hpos
    have := h1 (zv[i % zv.size]) (by simp)
    simpa [hm] using this

theorem good_buildSlice (hw : WR P g m w) (hm : g.rho slot = none) {e : Env} {tm : Array Value} (he : ER g e tm) {t et : TypeId} {len n : Nat} {ps : Array (Nat × Operand)} {z : List V}
    (hu : P.underlying t = some (.slice et)) (hn : sizeIn P et = some n) (hz : zeroL P et = some z) (h1 : 1 ≤ n) (hzn : z.length = n) (hlim : len * n ≤ 2 ^ 24) {l : List (Nat × Nat × Opd)}
    (hl : partsA n ps.toList = some l) {v : V} {ws : Ws}
    (h : (if len = 0 then (match (generalizing := false) l with | [] => some (V.ns, ([] : Ws)) | _ => none) else (fill e (zeros z len) l).map fun cs => (V.ms slot 0 len n, [(slot, some (litO n cs))])) = some (v, ws)) :
    GoodV P g m w slot v ws ((Go.Instr.buildSlice t len (ps.map fun p => (p.1, evT tm p.2))).run P w) := by
  simp only [zeroL, Option.bind_eq_some_iff] at hz
  obtain ⟨zv, z1, z2⟩ := hz
  obtain ⟨z3, z4, z5⟩ := cvL_ok z2 g.ro g.rho
  have hlim' : ¬ (len * n > 2 ^ 24) := by omega
  by_cases h0 : len = 0
  · subst h0
    simp only [if_true] at h
    cases l with
    | nil =>
      simp only [Option.some.injEq, Prod.mk.injEq] at h
      obtain ⟨rfl, rfl⟩ := h
      have hps : ps.toList = [] := by
        cases hp : ps.toList with
        | nil => rfl
        | cons a r => rw [hp] at hl; obtain ⟨j, x⟩ := a; simp [partsA, Option.bind_eq_some_iff] at hl
      have hps' : ps = #[] := by
        apply Array.ext'; simpa using hps
      subst hps'
      refine ⟨.slice (some ⟨w.heap.size, 0, none⟩) 0 0, { w with heap := w.heap.push (.cells #[] et) }, g.rho, ?_, RhoE.refl _, fun _ _ => rfl, by simp [VR], hw.push _, WB.push _ _⟩
      have e0 : ((Array.range 0).map fun _ => (default : Value)) = #[] := by simp
      simp [Go.Instr.buildSlice, Go.run_underlying hu, run_sizeOf hn, Go.Instr.fill, Go.newRow, e0]
    | cons a r => cases h
  · simp only [h0, if_false, Option.map_eq_some_iff, Prod.mk.injEq] at h
    obtain ⟨cs, h2, rfl, rfl⟩ := h
    have hne : ¬ (len * n = 0) := by
      intro hh
      rcases Nat.mul_eq_zero.1 hh with h | h <;> omega
    obtain ⟨q1, q2, q3⟩ := zeros_rel z3 (by simpa using z4) z5 len (len * n) (by rw [hzn])
    obtain ⟨cells', k1, k2, k3, k4, k5⟩ := fill_ok he ps.toList l (zeros z len) cs _ (partsA_ok hl) h2 q1 q2 q3
    have k3' : cs.length = cells'.size := by first | exact k3 | omega | (rw [k5, k3])
    have hrun : (Go.Instr.buildSlice t len (ps.map fun p => (p.1, evT tm p.2))).run P w = .ok (.slice (some ⟨w.heap.size, 0, none⟩) len len) { w with heap := w.heap.push (.cells cells' et) } := by
      simp only [Go.Instr.buildSlice, Sem.run_bind, Go.run_underlying hu, Result.andThen_ok, run_sizeOf hn]
      rw [if_neg hlim', if_neg hne]
      simp only [Sem.run_pure, Sem.run_bind, run_zero z1, Result.andThen_ok, Array.toList_map, k1]
      simp [Go.newRow]
    refine ⟨_, _, g.rho.set slot (w.heap.size, cells'.size), hrun, Rho.set_ext hm, fun l hl => rho_set_ne _ _ hl, ?_, newLit hw hm k2 k4 k3' et _, WB.push _ _⟩
    simp only [VR]
    refine ⟨_, _, len, rho_set_same _ _ _, rfl, Nat.le_refl _, ?_⟩
    rw [← k3, k5, zeros_len, hzn]
    omega

end
end Pi


/- The machine's operations against the pure ones: equality, keys, maps. -/
namespace Pi
open Go (IntKind TypeId FuncId Fn BinOp UnOp LoopState Value Addr World Program undef Operand Sem Result)

section
variable {P : Program} {g : G} {m : Sto} {w : World} {slot : Nat} {ro : Ro} {h : Rho}

theorem eqK_sound {k : K} {x y : V} {v u : Value} {c : Bool} (he : eqK k x y = some c) (hx : VR ro x h v) (hy : VR ro y h u) {t : TypeId} (hk : kindT P t = some k) (d : Nat) :
    (Go.Op.equalIn (d + 1) t v u).run P w = .ok c w := by
  unfold kindT at hk
  unfold eqK at he
  split at he
  · split at he
    · rename_i k1 a k2 b e
      subst e
      cases he
      simp only [VR] at hx hy
      subst hx; subst hy
      split at hk <;> cases hk
      rename_i kk hu
      simp [Go.Op.equalIn, Go.run_underlying hu]
    · cases he
  · cases he
    simp only [VR] at hx hy
    subst hx; subst hy
    split at hk <;> cases hk
    rename_i hu
    simp [Go.Op.equalIn, Go.run_underlying hu]
  · cases he
    simp only [VR] at hx hy
    subst hx; subst hy
    split at hk <;> cases hk
    rename_i hu
    simp [Go.Op.equalIn, Go.run_underlying hu]
  · cases he

theorem run_part_one {t : TypeId} (hg : aggOf P t = some false) {xs : Array Value} {n : Nat} {v : Value} (hv : xs[n]? = some v) : (Go.part t xs n).run P w = .ok v w := by
  simp [Go.part, run_isAgg hg, hv]

theorem eqFields (d : Nat) (xs ys : Array Value) : ∀ (fs : List Go.Field) (n : Nat) (ks : List K) (cs ds : List V) (c : Bool), fieldsK P fs n = some ks → eqL ks cs ds = some c →
    PR ro cs h (xs.toList.drop n) → PR ro ds h (ys.toList.drop n) →
    (forIn fs ((none, ()) : Option Bool × Unit) fun (f : Go.Field) (_ : Option Bool × Unit) =>
      if f.name ≠ "_" then do
        let a ← Go.part f.type xs f.offset
        let b ← Go.part f.type ys f.offset
        let r ← Go.Op.equalIn (d + 1) f.type a b
        if (!r) = true then pure (ForInStep.done (some false, ())) else pure (ForInStep.yield (none, ()))
      else pure (ForInStep.yield (none, ())) : Sem (Option Bool × Unit)).run P w = .ok (if c then (none, ()) else (some false, ())) w
  | [], n, ks, cs, ds, c, hk, he, _, _ => by
    cases hk
    unfold eqL at he
    split at he <;> simp_all
  | f :: fs, n, ks, cs, ds, c, hk, he, hx, hy => by
    simp only [fieldsK] at hk
    split at hk
    · rename_i hf
      obtain ⟨f1, f2, f3⟩ := hf
      simp only [Option.bind_eq_some_iff, Option.map_eq_some_iff] at hk
      obtain ⟨k, k1, l, k2, rfl⟩ := hk
      cases cs with
      | nil => cases ds <;> simp [eqL] at he
      | cons x cs =>
        cases ds with
        | nil => simp [eqL] at he
        | cons y ds =>
          simp only [eqL, Option.bind_eq_some_iff, Option.map_eq_some_iff] at he
          obtain ⟨c1, e1, c2, e2, rfl⟩ := he
          simp only [PR] at hx hy
          obtain ⟨v, r, hv1, hv2, hv3⟩ := hx
          obtain ⟨u, s, hu1, hu2, hu3⟩ := hy
          have gx : xs[n]? = some v := by
            have := congrArg (·[0]?) hv1
            simpa [List.getElem?_drop] using this
          have gy : ys[n]? = some u := by
            have := congrArg (·[0]?) hu1
            simpa [List.getElem?_drop] using this
          have dx : xs.toList.drop (n + 1) = r := by
            rw [← List.drop_drop, hv1]; rfl
          have dy : ys.toList.drop (n + 1) = s := by
            rw [← List.drop_drop, hu1]; rfl
          have ih := eqFields d xs ys fs (n + 1) l cs ds c2 k2 e2 (by rw [dx]; exact hv3) (by rw [dy]; exact hu3)
          subst f2
          simp only [List.forIn_cons, Sem.run_bind]
          rw [if_pos f1]
          simp only [Sem.run_bind, run_part_one f3 gx, run_part_one f3 gy, Result.andThen_ok, eqK_sound e1 hv2 hu2 k1 d]
          cases c1 with
          | true => simpa using ih
          | false => simp
    · cases hk

theorem eqCells (d : Nat) {et : TypeId} (hs : sizeIn P et = some 1) (hg : aggOf P et = some false) {k : K} (hk : kindT P et = some k) (xs ys : Array Value) : ∀ (len n : Nat) (cs ds : List V) (c : Bool),
    eqL (List.replicate len k) cs ds = some c → PR ro cs h (xs.toList.drop n) → PR ro ds h (ys.toList.drop n) →
    (forIn (List.range' n len) ((none, ()) : Option Bool × Unit) fun (i : Nat) (_ : Option Bool × Unit) => do
        let a ← Go.part et xs (i * 1)
        let b ← Go.part et ys (i * 1)
        let r ← Go.Op.equalIn (d + 1) et a b
        if (!r) = true then pure (ForInStep.done (some false, ())) else pure (ForInStep.yield (none, ())) : Sem (Option Bool × Unit)).run P w = .ok (if c then (none, ()) else (some false, ())) w
  | 0, n, cs, ds, c, he, _, _ => by
    simp only [List.replicate] at he
    unfold eqL at he
    split at he <;> simp_all
  | len + 1, n, cs, ds, c, he, hx, hy => by
      cases cs with
      | nil => cases ds <;> simp [eqL, List.replicate] at he
      | cons x cs =>
        cases ds with
        | nil => simp [eqL, List.replicate] at he
        | cons y ds =>
          simp only [List.replicate, eqL, Option.bind_eq_some_iff, Option.map_eq_some_iff] at he
          obtain ⟨c1, e1, c2, e2, rfl⟩ := he
          simp only [PR] at hx hy
          obtain ⟨v, r, hv1, hv2, hv3⟩ := hx
          obtain ⟨u, s, hu1, hu2, hu3⟩ := hy
          have gx : xs[n]? = some v := by
            have := congrArg (·[0]?) hv1
            simpa [List.getElem?_drop] using this
          have gy : ys[n]? = some u := by
            have := congrArg (·[0]?) hu1
            simpa [List.getElem?_drop] using this
          have dx : xs.toList.drop (n + 1) = r := by
            rw [← List.drop_drop, hv1]; rfl
          have dy : ys.toList.drop (n + 1) = s := by
            rw [← List.drop_drop, hu1]; rfl
          have ih := eqCells d hs hg hk xs ys len (n + 1) cs ds c2 e2 (by rw [dx]; exact hv3) (by rw [dy]; exact hu3)
          simp only [List.range'_succ, List.forIn_cons, Sem.run_bind, Nat.mul_one, run_part_one hg gx, run_part_one hg gy, Result.andThen_ok, eqK_sound e1 hv2 hu2 hk d]
          cases c1 with
          | true => simpa using ih
          | false => simp

theorem qOf_one {t : TypeId} {k : K} (hq : qOf P t = some (.one k)) : kindT P t = some k := by
  unfold qOf at hq
  unfold kindT
  split at hq
  · rename_i hu; rw [hu]; cases hq; rfl
  · rename_i hu; rw [hu]; cases hq; rfl
  · rename_i hu; rw [hu]; cases hq; rfl
  · split at hq
    · cases hq
    · simp [Option.map_eq_some_iff] at hq
  · split at hq
    · simp [Option.map_eq_some_iff] at hq
    · cases hq
  · cases hq

theorem eqQ_sound {q : Q} {x y : V} {v u : Value} {c : Bool} (he : eqQ q x y = some c) (hx : VR ro x h v) (hy : VR ro y h u) {t : TypeId} (hq : qOf P t = some q) (d : Nat) :
    (Go.Op.equalIn (d + 2) t v u).run P w = .ok c w := by
  cases q with
  | one k => exact eqK_sound he hx hy (qOf_one hq) (d + 1)
  | many ks =>
    unfold eqQ at he
    split at he
    · rename_i hh; cases hh
    · rename_i ks' cs ds hh
      cases hh
      simp only [VR] at hx hy
      obtain ⟨xs, rfl, lx, ox, px⟩ := hx
      obtain ⟨ys, rfl, ly, oy, py⟩ := hy
      unfold qOf at hq
      split at hq
      · cases hq
      · cases hq
      · cases hq
      · rename_i fs hu
        split at hq
        · cases hq
        · rename_i hst
          simp only [Option.map_eq_some_iff] at hq
          obtain ⟨l, k1, k2⟩ := hq
          cases k2
          have := eqFields (P := P) (w := w) d xs ys fs.toList 0 ks cs ds c k1 he (by simpa using px) (by simpa using py)
          rw [Go.Op.equalIn]
          simp only [Sem.run_bind, Go.run_underlying hu, Result.andThen_ok, Go.run_program, hst, if_false, Bool.false_eq_true]
          rw [← Array.forIn_toList, this]
          cases c <;> simp
      · rename_i n et hu
        split at hq
        · rename_i hc
          obtain ⟨h1, h2⟩ := hc
          simp only [Option.map_eq_some_iff] at hq
          obtain ⟨k, k1, k2⟩ := hq
          cases k2
          have := eqCells (P := P) (w := w) d h1 h2 k1 xs ys n 0 cs ds c he (by simpa using px) (by simpa using py)
          rw [Go.Op.equalIn]
          simp only [Sem.run_bind, Go.run_underlying hu, Result.andThen_ok, run_sizeOf h1]
          rw [Std.Legacy.Range.forIn_eq_forIn_range']
          rw [show List.range' [:n].start [:n].size [:n].step = List.range' 0 n by simp [Std.Legacy.Range.size]]
          rw [this]
          cases c <;> simp
        · cases hq
      · cases hq
    · cases he

theorem equal_sound {q : Q} {x y : V} {v u : Value} {c : Bool} (he : eqQ q x y = some c) (hx : VR ro x h v) (hy : VR ro y h u) {t : TypeId} (hq : qOf P t = some q) :
    (Go.Op.equal t v u).run P w = .ok c w := eqQ_sound he hx hy hq 9998

/-- A key that may be compared with itself may be a key. -/
theorem keyFields (d : Nat) (em : Bool) (xs : Array Value) : ∀ (fs : List Go.Field) (n : Nat) (ks : List K) (cs : List V), fieldsK P fs n = some ks → (eqL ks cs cs).isSome →
    PR ro cs h (xs.toList.drop n) →
    (forIn fs PUnit.unit fun (f : Go.Field) (_ : PUnit) =>
      if f.name ≠ "_" then do
        let a ← Go.part f.type xs f.offset
        Go.Instr.checkKey em (d + 1) f.type a
        pure (ForInStep.yield PUnit.unit)
      else pure (ForInStep.yield PUnit.unit) : Sem PUnit).run P w = .ok PUnit.unit w
  | [], n, ks, cs, hk, he, _ => by simp
  | f :: fs, n, ks, cs, hk, he, hx => by
    simp only [fieldsK] at hk
    split at hk
    · rename_i hf
      obtain ⟨f1, f2, f3⟩ := hf
      simp only [Option.bind_eq_some_iff, Option.map_eq_some_iff] at hk
      obtain ⟨k, k1, l, k2, rfl⟩ := hk
      cases cs with
      | nil => simp [eqL] at he
      | cons x cs =>
        simp only [PR] at hx
        obtain ⟨v, r, hv1, hv2, hv3⟩ := hx
        have gx : xs[n]? = some v := by
          have := congrArg (·[0]?) hv1
          simpa [List.getElem?_drop] using this
        have dx : xs.toList.drop (n + 1) = r := by
          rw [← List.drop_drop, hv1]; rfl
        have he' : (eqL l cs cs).isSome := by
          simp only [eqL] at he
          cases e1 : eqK k x x with
          | none => simp [e1] at he
          | some c => simpa [e1] using he
        have ih := keyFields d em xs fs (n + 1) l cs k2 he' (by rw [dx]; exact hv3)
        subst f2
        simp only [List.forIn_cons, Sem.run_bind]
        rw [if_pos f1]
        have hck : (Go.Instr.checkKey em (d + 1) f.type v).run P w = .ok () w := by
          unfold kindT at k1
          split at k1 <;> cases k1 <;> rename_i hu <;> simp [Go.Instr.checkKey, Go.run_underlying hu]
        simp only [Sem.run_bind, run_part_one f3 gx, Result.andThen_ok, hck, Sem.run_pure, ih]
    · cases hk

theorem keyCells (d : Nat) (em : Bool) {et : TypeId} (hs : sizeIn P et = some 1) (hg : aggOf P et = some false) {k : K} (hk : kindT P et = some k) (xs : Array Value) : ∀ (len n : Nat) (cs : List V),
    (eqL (List.replicate len k) cs cs).isSome → PR ro cs h (xs.toList.drop n) →
    (forIn (List.range' n len) PUnit.unit fun (i : Nat) (_ : PUnit) => do
        let s ← Go.sizeOf et
        let a ← Go.part et xs (i * s)
        Go.Instr.checkKey em (d + 1) et a
        pure (ForInStep.yield PUnit.unit) : Sem PUnit).run P w = .ok PUnit.unit w
  | 0, n, cs, he, _ => by simp
  | len + 1, n, cs, he, hx => by
      cases cs with
      | nil => simp [eqL, List.replicate] at he
      | cons x cs =>
        simp only [PR] at hx
        obtain ⟨v, r, hv1, hv2, hv3⟩ := hx
        have gx : xs[n]? = some v := by
          have := congrArg (·[0]?) hv1
          simpa [List.getElem?_drop] using this
        have dx : xs.toList.drop (n + 1) = r := by
          rw [← List.drop_drop, hv1]; rfl
        have he' : (eqL (List.replicate len k) cs cs).isSome := by
          simp only [List.replicate, eqL] at he
          cases e1 : eqK k x x with
          | none => simp [e1] at he
          | some c => simpa [e1] using he
        have ih := keyCells d em hs hg hk xs len (n + 1) cs he' (by rw [dx]; exact hv3)
        have hck : (Go.Instr.checkKey em (d + 1) et v).run P w = .ok () w := by
          unfold kindT at hk
          split at hk <;> cases hk <;> rename_i hu <;> simp [Go.Instr.checkKey, Go.run_underlying hu]
        simp only [List.range'_succ, List.forIn_cons, Sem.run_bind, run_sizeOf hs, Result.andThen_ok, Nat.mul_one, run_part_one hg gx, hck, Sem.run_pure, ih]

theorem checkKey_ok {q : Q} {x : V} {v : Value} (he : (eqQ q x x).isSome) (hx : VR ro x h v) {t : TypeId} (hq : qOf P t = some q) (em : Bool) :
    (Go.Instr.checkKey em 10000 t v).run P w = .ok () w := by
  cases q with
  | one k =>
    have k1 := qOf_one hq
    unfold kindT at k1
    rw [show (10000 : Nat) = 9999 + 1 from rfl, Go.Instr.checkKey]
    split at k1 <;> cases k1 <;> rename_i hu <;> simp [Go.run_underlying hu]
  | many ks =>
    cases x with
    | ag ds =>
      simp only [eqQ] at he
      simp only [VR] at hx
      obtain ⟨xs, rfl, lx, ox, px⟩ := hx
      unfold qOf at hq
      split at hq
      · cases hq
      · cases hq
      · cases hq
      · rename_i fs hu
        split at hq
        · cases hq
        · simp only [Option.map_eq_some_iff] at hq
          obtain ⟨l, k1, k2⟩ := hq
          cases k2
          have := keyFields (P := P) (w := w) 9998 em xs fs.toList 0 ks ds k1 he (by simpa using px)
          rw [show (10000 : Nat) = 9999 + 1 from rfl, Go.Instr.checkKey]
          simp only [Sem.run_bind, Go.run_underlying hu, Result.andThen_ok]
          rw [← Array.forIn_toList, this]
          simp
      · rename_i n et hu
        split at hq
        · rename_i hc
          obtain ⟨h1, h2⟩ := hc
          simp only [Option.map_eq_some_iff] at hq
          obtain ⟨k, k1, k2⟩ := hq
          cases k2
          have := keyCells (P := P) (w := w) 9998 em h1 h2 k1 xs n 0 ds he (by simpa using px)
          rw [show (10000 : Nat) = 9999 + 1 from rfl, Go.Instr.checkKey]
          simp only [Sem.run_bind, Go.run_underlying hu, Result.andThen_ok]
          rw [Std.Legacy.Range.forIn_eq_forIn_range']
          rw [show List.range' [:n].start [:n].size [:n].step = List.range' 0 n by simp [Std.Legacy.Range.size]]
          rw [this]
          simp
        · cases hq
      · cases hq
    | _ => cases he

/-- What the machine finds, of what is found. -/
def found (es : List Go.MapEntry) (j : Nat) (r : Option Nat) : Option (Nat × Value) := r.bind fun i => (es[i - j]?).map fun e => (i, e.val)

theorem find_ge {q : Q} {x : V} : ∀ {ks : List V} {j : Nat} {i : Nat}, find q x ks j = some (some i) → j ≤ i ∧ i - j < ks.length
  | [], j, i, h => by cases h
  | k :: ks, j, i, h => by
    simp only [find, Option.bind_eq_some_iff] at h
    obtain ⟨c, h1, h2⟩ := h
    cases c with
    | true => simp at h2; subst h2; simp
    | false =>
      have := find_ge (by simpa using h2)
      simp
      omega

theorem found_cons {e : Go.MapEntry} {es : List Go.MapEntry} {j : Nat} {r : Option Nat} (h : ∀ i, r = some i → j + 1 ≤ i) : found (e :: es) j r = found es (j + 1) r := by
  cases r with
  | none => rfl
  | some i =>
    have := h i rfl
    simp only [found, Option.bind_some]
    rw [show i - j = (i - (j + 1)) + 1 by omega]
    rfl

theorem findAsking_ok {q : Q} {x : V} {v : Value} {t : TypeId} (hx : VR ro x h v) (hq : qOf P t = some q) : ∀ (ks : List V) (es : List Go.MapEntry) (j : Nat) (r : Option Nat), find q x ks j = some r →
    PR ro ks h (es.map (·.key)) → ks.length = es.length → (Go.Instr.findAsking t v es j).run P w = .ok (found es j r) w
  | [], [], j, r, hf, _, _ => by cases hf; simp [Go.Instr.findAsking, found]
  | k :: ks, e :: es, j, r, hf, hp, hl => by
    simp only [List.map_cons, PR] at hp
    obtain ⟨u, s, h1, h2, h3⟩ := hp
    cases h1
    simp only [find, Option.bind_eq_some_iff] at hf
    obtain ⟨c, f1, f2⟩ := hf
    simp only [Go.Instr.findAsking, Sem.run_bind, equal_sound f1 hx h2 hq, Result.andThen_ok]
    cases c with
    | true => simp at f2; subst f2; simp [found]
    | false =>
      have f2' : find q x ks (j + 1) = some r := by simpa using f2
      have := findAsking_ok hx hq ks es (j + 1) r f2' h3 (by simpa using hl)
      simp only [Bool.false_eq_true, if_false, this]
      rw [found_cons (fun i hi => (find_ge (by rw [f2', hi])).1)]
  | [], _ :: _, _, _, _, _, hl => by simp at hl
  | _ :: _, [], _, _, _, _, hl => by simp at hl

theorem sameNow_ok {k : K} {x y : V} {v u : Value} {c : Bool} (he : eqK k x y = some c) (hx : VR ro x h v) (hy : VR ro y h u) {t : TypeId} {d : Go.TypeDesc} (hu : P.underlying t = some d) (hk : kindT P t = some k) :
    Go.Instr.sameNow d v u = some c := by
  unfold kindT at hk
  rw [hu] at hk
  unfold eqK at he
  split at he
  · split at he
    · rename_i e
      subst e
      cases he
      simp only [VR] at hx hy
      subst hx; subst hy
      split at hk <;> cases hk
      rename_i e; cases e
      simp [Go.Instr.sameNow]
    · cases he
  · cases he
    simp only [VR] at hx hy
    subst hx; subst hy
    split at hk <;> cases hk
    rename_i e; cases e
    simp [Go.Instr.sameNow]
  · cases he
    simp only [VR] at hx hy
    subst hx; subst hy
    split at hk <;> cases hk
    rename_i e; cases e
    simp [Go.Instr.sameNow]
  · cases he

theorem findNow_ok {k : K} {x : V} {v : Value} {t : TypeId} {d : Go.TypeDesc} (hu : P.underlying t = some d) (hk : kindT P t = some k) (hx : VR ro x h v) : ∀ (ks : List V) (es : List Go.MapEntry) (j : Nat) (r : Option Nat), find (.one k) x ks j = some r →
    PR ro ks h (es.map (·.key)) → ks.length = es.length → Go.Instr.findNow d v es j = some (found es j r)
  | [], [], j, r, hf, _, _ => by cases hf; simp [Go.Instr.findNow, found]
  | y :: ks, e :: es, j, r, hf, hp, hl => by
    simp only [List.map_cons, PR] at hp
    obtain ⟨u, s, h1, h2, h3⟩ := hp
    cases h1
    simp only [find, Option.bind_eq_some_iff] at hf
    obtain ⟨c, f1, f2⟩ := hf
    have := sameNow_ok f1 hx h2 hu hk
    simp only [Go.Instr.findNow, this]
    cases c with
    | true => simp at f2; subst f2; simp [found]
    | false =>
      have f2' : find (.one k) x ks (j + 1) = some r := by simpa using f2
      have := findNow_ok hu hk hx ks es (j + 1) r f2' h3 (by simpa using hl)
      simp only [this]
      rw [found_cons (fun i hi => (find_ge (by rw [f2', hi])).1)]
  | [], _ :: _, _, _, _, _, hl => by simp at hl
  | _ :: _, [], _, _, _, _, hl => by simp at hl

theorem findKey_ok {q : Q} {x : V} {v : Value} {t : TypeId} (hx : VR ro x h v) (hq : qOf P t = some q) {ks : List V} {es : List Go.MapEntry} {r : Option Nat} (hf : findIn q x ks = some r)
    (hp : PR ro ks h (es.map (·.key))) (hl : ks.length = es.length) : (Go.Instr.findKey t v es).run P w = .ok (found es 0 r) w := by
  unfold findIn at hf
  split at hf
  · rename_i hok
    have hud : ∃ d, P.underlying t = some d := by
      unfold qOf at hq
      cases hu : P.underlying t with
      | none => rw [hu] at hq; cases hq
      | some d => exact ⟨d, rfl⟩
    obtain ⟨d, hu⟩ := hud
    simp only [Go.Instr.findKey, Sem.run_bind, Go.run_underlying hu, Result.andThen_ok]
    cases q with
    | one k =>
      rw [findNow_ok hu (qOf_one hq) hx ks es 0 r hf hp hl]
      simp
    | many kk =>
      cases es with
      | nil =>
        cases ks with
        | nil => cases hf; simp [Go.Instr.findNow, found]
        | cons a b => simp at hl
      | cons e es =>
        have hnone : Go.Instr.findNow d v (e :: es) 0 = none := by
          have hs : Go.Instr.sameNow d v e.key = none := by
            cases x <;> simp [eqQ] at hok
            simp only [VR] at hx
            obtain ⟨arr, rfl, _⟩ := hx
            unfold Go.Instr.sameNow
            split <;> simp_all
          simp [Go.Instr.findNow, hs]
        rw [hnone]
        exact findAsking_ok hx hq ks (e :: es) 0 r hf hp hl
  · cases hf

end
end Pi


/- The machine's operations against the pure ones: maps, slices that grow. -/
namespace Pi
open Go (IntKind TypeId FuncId Fn BinOp UnOp LoopState Value Addr World Program undef Operand Sem Result)

theorem eqK_true {k : K} {x y : V} (h : eqK k x y = some true) : x = y := by
  unfold eqK at h
  split at h
  · split at h
    · rename_i e; subst e; simp at h; subst h; rfl
    · cases h
  · simp at h; subst h; rfl
  · rename_i a b
    simp only [Option.some.injEq] at h
    have h1 : a.beq b = true := h
    have h2 : a.data = b.data := by simpa [ByteArray.beq] using h1
    rw [show a = b from by cases a; cases b; exact congrArg ByteArray.mk h2]
  · cases h

theorem eqL_true : ∀ {ks : List K} {x y : List V}, eqL ks x y = some true → x = y
  | [], [], [], _ => rfl
  | k :: ks, x :: xs, y :: ys, h => by
    simp only [eqL, Option.bind_eq_some_iff, Option.map_eq_some_iff] at h
    obtain ⟨c, h1, d, h2, h3⟩ := h
    simp at h3
    obtain ⟨rfl, rfl⟩ := h3
    rw [eqK_true h1, eqL_true h2]
  | [], [], _ :: _, h => by simp [eqL] at h
  | [], _ :: _, _, h => by simp [eqL] at h
  | _ :: _, [], _, h => by simp [eqL] at h
  | _ :: _, _ :: _, [], h => by simp [eqL] at h

theorem eqQ_true {q : Q} {x y : V} (h : eqQ q x y = some true) : x = y := by
  unfold eqQ at h
  split at h
  · exact eqK_true h
  · rw [eqL_true h]
  · cases h

theorem find_eq {q : Q} {x : V} : ∀ {ks : List V} {j i : Nat}, find q x ks j = some (some i) → ks[i - j]? = some x
  | [], j, i, h => by cases h
  | k :: ks, j, i, h => by
    simp only [find, Option.bind_eq_some_iff] at h
    obtain ⟨c, h1, h2⟩ := h
    cases c with
    | true => simp at h2; subst h2; simp [eqQ_true h1]
    | false =>
      have h3 : find q x ks (j + 1) = some (some i) := by simpa using h2
      have := find_eq h3
      have hg := (find_ge h3).1
      rw [show i - j = (i - (j + 1)) + 1 by omega]
      simpa using this

section
variable {P : Program} {g : G} {m : Sto} {w : World} {slot : Nat}

theorem zeroV_ok {t : TypeId} {z : V} (h : zeroV P t = some z) (ro : Ro) (r : Rho) : ∃ v, zeroIn P t = some v ∧ VR ro z r v := by
  simp only [zeroV, Option.bind_eq_some_iff] at h
  obtain ⟨v, h1, h2⟩ := h
  exact ⟨v, h1, cv_ok h2 ro r⟩

theorem look_ok {q : Q} {z x v : V} {ok : Bool} {ks vs : List V} {ws : Ws} {ro : Ro} {h : Rho} {u : Value} {kt e : TypeId} (hl : look q z x ok ks vs = some (v, ws)) (hx : VR ro x h u)
    (hq : qOf P kt = some q) (hz : zeroV P e = some z) {es : List Go.MapEntry} (hk : PR ro ks h (es.map (·.key))) (lk : ks.length = es.length) (hv : PR ro vs h (es.map (·.val))) :
    ws = [] ∧ ∃ v', VR ro v h v' ∧ ((do
        let (v, ok') ← match ← Go.Instr.findKey kt u es with
          | some (_, v) => pure (v, true)
          | none => pure (← Go.zeroValue e, false)
        pure (if ok then .tuple #[v, .bool ok'] else v)) : Sem Value).run P w = .ok v' w := by
  simp only [look, Option.bind_eq_some_iff] at hl
  obtain ⟨r, h1, h2⟩ := hl
  have hf := findKey_ok (P := P) (w := w) hx hq h1 hk lk
  obtain ⟨zv, z1, z2⟩ := zeroV_ok hz ro h
  cases r with
  | none =>
    simp only [Option.some.injEq, Prod.mk.injEq] at h2
    obtain ⟨rfl, rfl⟩ := h2
    refine ⟨rfl, if ok then .tuple #[zv, .bool false] else zv, ?_, ?_⟩
    · cases ok with
      | true => simp only [if_true, VR]; exact ⟨_, rfl, rfl, ⟨_, _, rfl, z2, ⟨_, _, rfl, rfl, trivial⟩⟩⟩
      | false => exact z2
    · simp [hf, found, run_zero z1]
  | some i =>
    simp only [Option.map_eq_some_iff, Prod.mk.injEq] at h2
    obtain ⟨y, h3, rfl, rfl⟩ := h2
    obtain ⟨uv, k1, k2⟩ := hv.get h3
    rw [List.getElem?_map, Option.map_eq_some_iff] at k1
    obtain ⟨en, k3, rfl⟩ := k1
    refine ⟨rfl, if ok then .tuple #[en.val, .bool true] else en.val, ?_, ?_⟩
    · cases ok with
      | true => simp only [if_true, VR]; exact ⟨_, rfl, rfl, ⟨_, _, rfl, k2, ⟨_, _, rfl, rfl, trivial⟩⟩⟩
      | false => exact k2
    · simp [hf, found, k3]

theorem MapO.size {ks vs : List V} {es : Array Go.MapEntry} (h : MapO ks vs es) : ks.length = es.size := by
  obtain ⟨L, L', h1, _, rfl, _, h2, _⟩ := h
  have := congrArg List.length h2
  simp at this
  simp [h1.length_eq.symm, this]
theorem MapO.rel {ks vs : List V} {es : Array Go.MapEntry} (h : MapO ks vs es) (ro : Ro) (r : Rho) : ∃ L L' : List P3, L.Perm L' ∧ (L'.map fun p => (p.1, p.2.1)).Nodup ∧ ks = L'.map keyV ∧ vs = L'.map fnV ∧
    (L.map keyV).length = es.size ∧ (L.map fnV).length = es.size ∧ PR ro (L.map keyV) r (es.toList.map (·.key)) ∧ PR ro (L.map fnV) r (es.toList.map (·.val)) := by
  obtain ⟨L, L', h1, h2, h3, h4, h5, h6⟩ := h
  have hl := congrArg List.length h5
  simp at hl
  refine ⟨L, L', h1, h2, h3, h4, by simp [hl], by simp [hl], ?_, ?_⟩
  · rw [h5]
    clear h1 h5 h6 hl
    induction L with
    | nil => trivial
    | cons p L ih =>
      simp only [List.map_cons, PR]
      refine ⟨_, _, rfl, ?_, ih⟩
      simp only [keyV, VR]
      exact ⟨_, rfl, rfl, by intro v hv; simp at hv; rcases hv with rfl | rfl <;> rfl, ⟨_, _, rfl, by simp [VR], ⟨_, _, rfl, by simp [VR], trivial⟩⟩⟩
  · rw [h6]
    clear h1 h5 h6 hl
    induction L with
    | nil => trivial
    | cons p L ih =>
      simp only [List.map_cons, PR]
      refine ⟨_, _, rfl, ?_, ih⟩
      simp only [fnV, VR]
      exact ⟨_, _, _, rfl, rfl, rfl, rfl, trivial, trivial⟩
/-- Does a key name an entry? -/
def isP (a b : Int) (p : P3) : Bool := a == p.1 && b == p.2.1
theorem find_pair {a b : Int} : ∀ {L : List P3} {j : Nat}, find (.many [.i, .i]) (.ag [.i .i64 a, .i .i64 b]) (L.map keyV) j = some ((L.findIdx? (isP a b)).map (· + j))
  | [], j => by simp [find]
  | p :: L, j => by
    have hq : eqQ (.many [.i, .i]) (.ag [.i .i64 a, .i .i64 b]) (keyV p) = some (isP a b p) := by
      simp [eqQ, eqL, eqK, keyV, isP]
    simp only [List.map_cons, find, hq, Option.bind_some, List.findIdx?_cons]
    cases isP a b p with
    | true => simp
    | false =>
      simp only [Bool.false_eq_true, if_false]
      rw [find_pair (L := L)]
      cases L.findIdx? (isP a b) with
      | none => rfl
      | some i => simp; omega
theorem look_pair {a b : Int} {z : V} {ok : Bool} {L : List P3} : look (.many [.i, .i]) z (.ag [.i .i64 a, .i .i64 b]) ok (L.map keyV) (L.map fnV) =
    match L.find? (isP a b) with
    | some p => some (if ok then .tu [fnV p, .b true] else fnV p, [])
    | none => some (if ok then .tu [z, .b false] else z, []) := by
  have h0 : (eqQ (.many [.i, .i]) (.ag [.i .i64 a, .i .i64 b]) (.ag [.i .i64 a, .i .i64 b])).isSome = true := by simp [eqQ, eqL, eqK]
  unfold look findIn
  rw [if_pos h0, find_pair]
  cases hf : L.findIdx? (isP a b) with
  | none =>
    have : L.find? (isP a b) = none := by
      rw [List.find?_eq_none]
      rw [List.findIdx?_eq_none_iff] at hf
      intro p hp
      simp [hf p hp]
    rw [this]
    rfl
  | some i =>
    obtain ⟨hi, h1, h2⟩ := List.findIdx?_eq_some_iff_getElem.1 hf
    have : L.find? (isP a b) = some L[i] := by
      rw [List.find?_eq_some_iff_getElem]
      exact ⟨h1, i, hi, rfl, fun j hj => by simpa using h2 j hj⟩
    rw [this]
    simp [hi]
theorem find_perm {a b : Int} {L L' : List P3} (h : L.Perm L') (hn : (L'.map fun p => (p.1, p.2.1)).Nodup) : L.find? (isP a b) = L'.find? (isP a b) := by
  have uniq : ∀ p ∈ L', ∀ q ∈ L', isP a b p = true → isP a b q = true → p = q := by
    intro p hp q hq h1 h2
    simp only [isP, Bool.and_eq_true, beq_iff_eq] at h1 h2
    have hpq : (p.1, p.2.1) = (q.1, q.2.1) := by rw [← h1.1, ← h1.2, ← h2.1, ← h2.2]
    obtain ⟨i, hi, rfl⟩ := List.getElem_of_mem hp
    obtain ⟨j, hj, rfl⟩ := List.getElem_of_mem hq
    have hne := List.pairwise_iff_getElem.1 hn
    have hij : i = j := by
      rcases Nat.lt_trichotomy i j with h | h | h
      · exact (hne i j (by simpa using hi) (by simpa using hj) h (by rw [List.getElem_map, List.getElem_map]; exact hpq)).elim
      · exact h
      · exact (hne j i (by simpa using hj) (by simpa using hi) h (by rw [List.getElem_map, List.getElem_map]; exact hpq.symm)).elim
    subst hij
    rfl
  cases h1 : L'.find? (isP a b) with
  | none =>
    rw [List.find?_eq_none] at h1 ⊢
    exact fun p hp => h1 p (h.subset hp)
  | some p =>
    have hp := List.find?_some h1
    have hm := List.mem_of_find?_eq_some h1
    cases h2 : L.find? (isP a b) with
    | none =>
      rw [List.find?_eq_none] at h2
      exact absurd hp (h2 p (h.symm.subset hm))
    | some q =>
      rw [uniq p hm q (h.subset (List.mem_of_find?_eq_some h2)) hp (List.find?_some h2)]
/-- Where entries stand in another order, a lookup tells the same. -/
theorem look_perm {q : Q} {z x v : V} {ok : Bool} {ws : Ws} {L L' : List P3} (hl : look q z x ok (L'.map keyV) (L'.map fnV) = some (v, ws)) (h : L.Perm L') (hn : (L'.map fun p => (p.1, p.2.1)).Nodup) :
    look q z x ok (L.map keyV) (L.map fnV) = some (v, ws) := by
  cases L' with
  | nil =>
    have : L = [] := List.perm_nil.1 h
    subst this
    exact hl
  | cons p0 L0 =>
    have shape : ∃ a b, q = .many [.i, .i] ∧ x = .ag [.i .i64 a, .i .i64 b] := by
      have hl2 := hl
      simp only [look, findIn, Option.bind_eq_some_iff] at hl2
      obtain ⟨r, h1, _⟩ := hl2
      split at h1
      · simp only [List.map_cons, find, Option.bind_eq_some_iff] at h1
        obtain ⟨c, h2, _⟩ := h1
        have aux : ∀ {k : K} {y : V} {n : Int} {c : Bool}, eqK k y (.i .i64 n) = some c → k = .i ∧ ∃ a, y = .i .i64 a := by
          intro k y n c e
          cases k <;> cases y <;> simp [eqK] at e
          rename_i kk a
          exact ⟨rfl, a, by rw [e.1]⟩
        cases q with
        | one k =>
          have h3 : eqK k x (keyV p0) = some c := h2
          cases k <;> cases x <;> simp [eqK, keyV] at h3
        | many kk =>
          cases x with
          | ag xs =>
            have h3 : eqL kk xs [.i .i64 p0.1, .i .i64 p0.2.1] = some c := h2
            match kk, xs, h3 with
            | [k1, k2], [x1, x2], h3 =>
              simp only [eqL, Option.bind_eq_some_iff, Option.map_eq_some_iff] at h3
              obtain ⟨c1, e1, d1, ⟨c2, e2, _⟩, _⟩ := h3
              obtain ⟨rfl, a, rfl⟩ := aux e1
              obtain ⟨rfl, b, rfl⟩ := aux e2
              exact ⟨a, b, rfl, rfl⟩
            | [], [], h3 => simp [eqL] at h3
            | [], _ :: _, h3 => simp [eqL] at h3
            | [k1], [], h3 => simp [eqL] at h3
            | [k1], [_], h3 => simp [eqL] at h3
            | [k1], _ :: _ :: _, h3 => simp [eqL] at h3
            | k1 :: k2 :: k3 :: kk, [], h3 => simp [eqL] at h3
            | k1 :: k2 :: k3 :: kk, [_], h3 => simp [eqL] at h3
            | k1 :: k2 :: k3 :: kk, [_, _], h3 => simp [eqL] at h3
            | k1 :: k2 :: k3 :: kk, _ :: _ :: _ :: _, h3 => simp [eqL] at h3
            | [k1, k2], [], h3 => simp [eqL] at h3
            | [k1, k2], [_], h3 => simp [eqL] at h3
            | [k1, k2], _ :: _ :: _ :: _, h3 => simp [eqL] at h3
          | _ => simp [eqQ] at h2
      · cases h1
    obtain ⟨a, b, rfl, rfl⟩ := shape
    rw [look_pair] at hl ⊢
    rw [find_perm h hn]
    exact hl

/-- What a lookup does behind its map's entries. -/
def lookTail (kt e : TypeId) (u : Value) (ok : Bool) (es : Array Go.MapEntry) : Sem Value := do
  Go.Instr.checkKey es.isEmpty 10000 kt u
  let (v, ok') ← match ← Go.Instr.findKey kt u es.toList with
    | some (_, v) => pure (v, true)
    | none => pure (← Go.zeroValue e, false)
  pure (if ok then .tuple #[v, .bool ok'] else v)

theorem lookup_none {t kt e : TypeId} (ht : P.underlying t = some (.map kt e)) (u : Value) (ok : Bool) : (Go.Instr.lookup t (.map none) u ok).run P w = (lookTail kt e u ok #[]).run P w := by
  simp only [Go.Instr.lookup, Sem.run_bind, Go.run_underlying ht, Result.andThen_ok, Sem.run_pure, lookTail]
  rfl

theorem lookup_some {t kt e : TypeId} (ht : P.underlying t = some (.map kt e)) (u : Value) (ok : Bool) {b ck : Nat} {es : Array Go.MapEntry} (hb : w.heap[b]? = some (.map es ck)) :
    (Go.Instr.lookup t (.map (some b)) u ok).run P w = (lookTail kt e u ok es).run P w := by
  have hg : (Go.getObj b).run P w = .ok (.map es ck) w := by simp [Go.getObj, Sem.run, hb]
  simp only [Go.Instr.lookup, Sem.run_bind, Go.run_underlying ht, Result.andThen_ok, Sem.run_pure, lookTail, hg]
  rfl

theorem good_lookup (hw : WR P g m w) {t kt e : TypeId} {q : Q} {z x y v : V} {ok : Bool} {ws : Ws} {a u : Value} (ht : P.underlying t = some (.map kt e)) (hq : qOf P kt = some q) (hz : zeroV P e = some z)
    (hx : VR g.ro x g.rho a) (hy : VR g.ro y g.rho u)
    (h : (match (generalizing := false) x with
      | .nm => look q z y ok [] []
      | .rm ks vs => look q z y ok ks vs
      | .mp l => match m l with
        | some (.map ks vs _) => look q z y ok ks vs
        | _ => none
      | _ => none) = some (v, ws)) : GoodV P g m w slot v ws ((Go.Instr.lookup t a u ok).run P w) := by
  have hkey : ∀ {ks vs}, look q z y ok ks vs = some (v, ws) → (eqQ q y y).isSome := by
    intro ks vs hl
    simp only [look, findIn, Option.bind_eq_some_iff] at hl
    obtain ⟨r, h1, _⟩ := hl
    split at h1
    · assumption
    · cases h1
  have fin : ∀ {es : Array Go.MapEntry} {ks vs} {h' : Rho}, look q z y ok ks vs = some (v, ws) → PR g.ro ks h' (es.toList.map (·.key)) → ks.length = es.size → PR g.ro vs h' (es.toList.map (·.val)) → vs.length = es.size →
      RhoE h' g.rho → (Go.Instr.lookup t a u ok).run P w = (lookTail kt e u ok es).run P w → GoodV P g m w slot v ws ((Go.Instr.lookup t a u ok).run P w) := by
    intro es ks vs h' hl hk lk hv lv hm hes
    obtain ⟨e1, v', k1, k2⟩ := look_ok (P := P) (w := w) hl hy hq hz (PR.mono (RoE.refl _) ks hm hk) (by simpa using lk) (PR.mono (RoE.refl _) vs hm hv)
    subst e1
    refine GoodV.pure hw k1 ?_
    rw [hes]
    unfold lookTail
    rw [Sem.run_bind, checkKey_ok (P := P) (w := w) (hkey hl) hy hq es.isEmpty, Result.andThen_ok]
    exact k2
  cases x with
  | nm =>
    simp only [VR] at hx
    subst hx
    exact fin (es := #[]) (h' := g.rho) h (by simp [PR]) rfl (by simp [PR]) rfl (RhoE.refl _) (lookup_none ht u ok)
  | rm ks vs =>
    simp only [VR] at hx
    rcases hx with ⟨rfl, rfl, rfl⟩ | ⟨b, es, ck, rfl, h2, h3, h4, h5, h6⟩ | ⟨b, es, ck, rfl, h2, hmo⟩
    · exact fin (es := #[]) (h' := g.rho) h (by simp [PR]) rfl (by simp [PR]) rfl (RhoE.refl _) (lookup_none ht u ok)
    · have hb := hw.keep _ _ (hw.ro _ _ h2)
      exact fin h h5 h3 h6 h4 (fun _ _ e => by cases e) (lookup_some ht u ok hb)
    · have hb := hw.keep _ _ (hw.ro _ _ h2)
      obtain ⟨L, L', p1, p2, rfl, rfl, p3, p4, p5, p6⟩ := hmo.rel g.ro g.rho
      exact fin (look_perm h p1 p2) p5 p3 p6 p4 (RhoE.refl _) (lookup_some ht u ok hb)
  | mp l =>
    dsimp only at h
    split at h
    · rename_i ks vs r hm
      simp only [VR] at hx
      obtain ⟨b, n, h1, rfl⟩ := hx
      obtain ⟨b', n', h2, es, ck, h3, h4, h5, h6, h7, h8⟩ := hw.obj l _ hm
      rw [h1] at h2
      cases h2
      exact fin h h6 h4 h7 h5 (RhoE.refl _) (lookup_some ht u ok h3)
    · cases h
  | _ => cases h

end
end Pi


/- The machine's operations against the pure ones: maps written, slices that grow. -/
namespace Pi
open Go (IntKind TypeId FuncId Fn BinOp UnOp LoopState Value Addr World Program undef Operand Sem Result)

theorem sameBits_scalar {ro : Ro} {h : Rho} {k : K} {x : V} {v u : Value} (he : eqK k x x = some true) (hx : VR ro x h v) (hy : VR ro x h u) (n : Nat) : Go.Instr.sameBits n v u = true := by
  unfold eqK at he
  split at he
  · simp only [VR] at hx hy; subst hx; subst hy; simp [Go.Instr.sameBits]
  · simp only [VR] at hx hy; subst hx; subst hy; simp [Go.Instr.sameBits]
  · simp only [VR] at hx hy; subst hx; subst hy; simp only [Go.Instr.sameBits]; simpa using he
  · cases he

theorem sameBits_cells {ro : Ro} {h : Rho} (n : Nat) : ∀ {ks : List K} {cs : List V} {l r : List Value}, eqL ks cs cs = some true → PR ro cs h l → PR ro cs h r → cs.length = l.length → cs.length = r.length →
    ((l.zip r).all fun (x, y) => Go.Instr.sameBits n x y) = true
  | [], [], [], _, _, _, _, _, _ => by simp
  | k :: ks, c :: cs, v :: l, u :: r, he, hx, hy, h1, h2 => by
    simp only [eqL, Option.bind_eq_some_iff, Option.map_eq_some_iff] at he
    obtain ⟨a, e1, b, e2, e3⟩ := he
    simp at e3
    obtain ⟨rfl, rfl⟩ := e3
    simp only [PR] at hx hy
    obtain ⟨_, _, q1, q2, q3⟩ := hx
    obtain ⟨_, _, p1, p2, p3⟩ := hy
    cases q1; cases p1
    have ih := sameBits_cells (n := n) e2 q3 p3 (by simpa using h1) (by simpa using h2)
    simp only [List.zip_cons_cons, List.all_cons, sameBits_scalar e1 q2 p2, Bool.true_and]
    exact ih
  | [], [], _ :: _, _, _, _, _, h1, _ => by simp at h1
  | _, _ :: _, [], _, _, _, _, h1, _ => by simp at h1
  | _, _ :: _, _ :: _, [], _, _, _, _, h2 => by simp at h2
  | _ :: _, [], _, _, he, _, _, _, _ => by simp [eqL] at he
  | [], _ :: _, _, _, he, _, _, _, _ => by simp [eqL] at he

theorem sameBits_ok {ro : Ro} {h : Rho} {q : Q} {x : V} {v u : Value} (he : eqQ q x x = some true) (hx : VR ro x h v) (hy : VR ro x h u) : Go.Instr.sameBits 10000 v u = true := by
  cases q with
  | one k => exact sameBits_scalar he hx hy _
  | many ks =>
    cases x with
    | ag cs =>
      simp only [eqQ] at he
      simp only [VR] at hx hy
      obtain ⟨xs, rfl, a1, a2, a3⟩ := hx
      obtain ⟨ys, rfl, b1, b2, b3⟩ := hy
      simp only [Go.Instr.sameBits, Bool.and_eq_true, beq_iff_eq]
      exact ⟨by omega, sameBits_cells 9999 he a3 b3 (by simpa using a1) (by simpa using b1)⟩
    | _ => simp [eqQ] at he

theorem find_true {q : Q} {x : V} : ∀ {ks : List V} {j i : Nat}, find q x ks j = some (some i) → eqQ q x x = some true
  | [], j, i, h => by cases h
  | k :: ks, j, i, h => by
    simp only [find, Option.bind_eq_some_iff] at h
    obtain ⟨c, h1, h2⟩ := h
    cases c with
    | true => have := eqQ_true h1; subst this; exact h1
    | false => exact find_true (by simpa using h2)

section
variable {P : Program} {g : G} {m : Sto} {w : World} {slot : Nat}

theorem heap_set_ne {w : World} {b c : Nat} {o : Go.Obj} (h : c ≠ b) : ({ w with heap := w.heap.setIfInBounds b o } : World).heap[c]? = w.heap[c]? := by
  simp only [Array.getElem?_setIfInBounds]
  rw [if_neg (by omega)]

theorem heap_set_at {w : World} {b : Nat} {o o' : Go.Obj} (h : w.heap[b]? = some o) : ({ w with heap := w.heap.setIfInBounds b o' } : World).heap[b]? = some o' := by
  have := (Array.getElem?_eq_some_iff.1 h).1
  simp [this]

theorem WB.setObj (w : World) (b : Nat) (o : Go.Obj) : WB w { w with heap := w.heap.setIfInBounds b o } := ⟨rfl, rfl, rfl, by simp⟩

theorem run_getObj {b : Nat} {o : Go.Obj} (h : w.heap[b]? = some o) (hc : ∀ c e f, o ≠ .cells c e f) : (Go.getObj b).run P w = .ok o w := by
  cases o <;> first | (exact absurd rfl (hc _ _ _)) | simp [Go.getObj, Sem.run, h]
theorem run_setObj {b : Nat} {o o' : Go.Obj} (h : w.heap[b]? = some o) (hc : ∀ c e f, o ≠ .cells c e f) : (Go.setObj b o').run P w = .ok () { w with heap := w.heap.setIfInBounds b o' } := by
  cases o <;> first | (exact absurd rfl (hc _ _ _)) | simp [Go.setObj, Sem.run, h]

theorem good_mapUpdate (hw : WR P g m w) {t kt e : TypeId} {q : Q} {x y z v : V} {ws : Ws} {a u s : Value} (ht : P.underlying t = some (.map kt e)) (hq : qOf P kt = some q)
    (hx : VR g.ro x g.rho a) (hy : VR g.ro y g.rho u) (hz : VR g.ro z g.rho s)
    (h : (match (generalizing := false) x with
      | .mp l => match m l with
        | some (.map ks vs false) => (findIn q y ks).map fun
          | some j => (V.un, [(l, some (PObj.map ks (vs.set j z) false))])
          | none => (.un, [(l, some (.map (ks ++ [y]) (vs ++ [z]) false))])
        | _ => none
      | _ => none) = some (v, ws)) : v = .un ∧ GoodU P g m w slot ws ((Go.Instr.mapUpdate t a u s).run P w) := by
  cases x with
  | mp l =>
    dsimp only at h
    split at h
    · rename_i ks vs hm
      simp only [Option.map_eq_some_iff] at h
      obtain ⟨r, h1, h2⟩ := h
      simp only [VR] at hx
      obtain ⟨b, n, h3, rfl⟩ := hx
      obtain ⟨b', n', h4, es, ck, h5, h6, h7, h8, h9, h10⟩ := hw.obj l _ hm
      rw [h3] at h4
      cases h4
      have hkey : (eqQ q y y).isSome := by
        unfold findIn at h1
        split at h1
        · assumption
        · cases h1
      have hck := checkKey_ok (P := P) (w := w) hkey hy hq false
      have hf := findKey_ok (P := P) (w := w) hy hq h1 h8 (by simpa using h6)
      have hg := run_getObj (P := P) h5 (by simp)
      cases r with
      | none =>
        simp only [Prod.mk.injEq] at h2
        obtain ⟨rfl, rfl⟩ := h2
        refine ⟨rfl, { w with heap := w.heap.setIfInBounds b (.map (es.push { key := u, val := s, born := ck }) (ck + 1)) }, g.rho, ?_, RhoE.refl _, fun _ _ => rfl, ?_, WB.setObj _ _ _⟩
        · simp [Go.Instr.mapUpdate, Go.run_underlying ht, hg, hck, hf, found, run_setObj (P := P) h5 (by simp)]
        · refine WR.put hw hm h3 (by simpa using h10) (fun c hc => heap_set_ne hc) ?_
          refine ⟨_, _, heap_set_at h5, by simp [h6], by simp [h7], ?_, ?_, h10⟩
          · simpa using h8.append (by simpa using h6) (show PR g.ro [y] g.rho [u] from ⟨_, _, rfl, hy, trivial⟩)
          · simpa using h9.append (by simpa using h7) (show PR g.ro [z] g.rho [s] from ⟨_, _, rfl, hz, trivial⟩)
      | some j =>
        simp only [Prod.mk.injEq] at h2
        obtain ⟨rfl, rfl⟩ := h2
        unfold findIn at h1
        rw [if_pos hkey] at h1
        have hge := find_ge h1
        have hj : j < es.size := by simp at hge; omega
        have hkj : ks[j]? = some y := by simpa using find_eq h1
        obtain ⟨old, o1, o2⟩ := h8.get hkj
        have hold : (es[j]?).map (·.key) = some old := by simpa using o1
        have hsb := sameBits_ok (find_true h1) o2 hy
        have hfd : found es.toList 0 (some j) = some (j, es[j].val) := by simp [found, hj]
        refine ⟨rfl, { w with heap := w.heap.setIfInBounds b (.map (es.modify j fun e => { e with key := u, val := s }) ck) }, g.rho, ?_, RhoE.refl _, fun _ _ => rfl, ?_, WB.setObj _ _ _⟩
        · have hks : (Go.Instr.keyThatStays (((es[j]?).map (·.key)).getD u) u).run P w = .ok u w := by
            rw [hold]
            simp [Go.Instr.keyThatStays, hsb]
          simp only [Go.Instr.mapUpdate, Sem.run_bind, Go.run_underlying ht, Result.andThen_ok, hg, hck, hf, hfd, hks, run_setObj (P := P) h5 (by simp)]
        · refine WR.put hw hm h3 (by simpa using h10) (fun c hc => heap_set_ne hc) ?_
          refine ⟨_, _, heap_set_at h5, by simp [h6], by simp [h7], ?_, ?_, h10⟩
          · refine .mk (by simp [h6]) fun i c v hc hv => ?_
            rw [List.getElem?_map] at hv
            simp only [Array.getElem?_toList, Array.getElem?_modify] at hv
            by_cases hi : j = i
            · subst hi
              rw [hkj] at hc
              cases hc
              simp [hj] at hv
              subst hv
              exact hy
            · simp only [hi, if_false] at hv
              exact h8.at hc (by simpa using hv)
          · refine .mk (by simp [h7]) fun i c v hc hv => ?_
            rw [List.getElem?_map] at hv
            simp only [Array.getElem?_toList, Array.getElem?_modify] at hv
            by_cases hi : j = i
            · subst hi
              simp [hj] at hv
              subst hv
              rw [List.getElem?_set_self (by omega)] at hc
              cases hc
              exact hz
            · simp only [hi, if_false] at hv
              rw [List.getElem?_set_ne hi] at hc
              exact h9.at hc (by simpa using hv)
    · cases h
  | _ => cases h

theorem good_makeMap (hw : WR P g m w) (hm : g.rho slot = none) (t : TypeId) : GoodV P g m w slot (.mp slot) [(slot, some (.map [] [] false))] ((Go.Instr.makeMap t none).run P w) := by
  refine ⟨.map (some w.heap.size), { w with heap := w.heap.push (.map #[] 0) }, g.rho.set slot (w.heap.size, 0), ?_, Rho.set_ext hm, fun l hl => rho_set_ne _ _ hl, ?_, ?_, WB.push _ _⟩
  · simp [Go.Instr.makeMap]
  · simp only [VR]; exact ⟨_, _, rho_set_same _ _ _, rfl⟩
  · refine WR.new hw hm (fun b hb => heap_push_lt hb) ?_
    refine ⟨#[], 0, by simp, rfl, rfl, by simp [PR], by simp [PR], ?_⟩
    simp only [Bool.false_eq_true, if_false]
    exact hw.keep_size

theorem ofBytes_rel {ro : Ro} {h : Rho} (l : List UInt8) : PR ro (ofBytes l) h (l.map fun c => Value.int .u8 c.toNat) ∧ OneL (l.map fun c => Value.int .u8 c.toNat) := by
  constructor
  · induction l with
    | nil => simp [ofBytes, PR]
    | cons a l ih => exact ⟨_, _, rfl, by simp [VR], ih⟩
  · intro v hv
    simp at hv
    obtain ⟨c, _, rfl⟩ := hv
    rfl

/-- What is put behind a slice, or copied: its cells, in any world where memory lies as here. -/
theorem src_ok (hw : WR P g m w) {esz n : Nat} {y : V} {xs : List V} {v : Value} (hy : VR g.ro y g.rho v) (h1 : apCells m esz y = some xs) (h2 : lenV m y = some n) :
    ∃ news : List Value, PR g.ro xs g.rho news ∧ xs.length = n * esz ∧ news.length = n * esz ∧ OneL news ∧ (Go.Builtin.lenOf v).run P w = .ok n w ∧
      ∀ (k : Nat) (w' : World), k ≤ n → w'.heap = w.heap → (Go.Builtin.firstCells esz k v).run P w' = .ok (news.take (k * esz)).toArray w' := by
  cases y with
  | s a =>
    simp only [apCells] at h1
    split at h1
    · rename_i e1
      cases h1
      subst e1
      simp only [lenV, Option.some.injEq] at h2
      subst h2
      simp only [VR] at hy
      subst hy
      obtain ⟨p1, p2⟩ := ofBytes_rel (ro := g.ro) (h := g.rho) a.data.toList
      refine ⟨_, p1, ?_, ?_, p2, ?_, ?_⟩
      · rw [ofBytes, List.length_map, Array.length_toList, Nat.mul_one]; rfl
      · rw [List.length_map, Array.length_toList, Nat.mul_one]; rfl
      · simp [Go.Builtin.lenOf]
      · intro k w' hk _
        simp only [Go.Builtin.firstCells, Sem.run_pure, Nat.mul_one]
        congr 1
        apply Array.ext'
        simp [ByteArray.data_extract]
    · cases h1
  | ns =>
    simp only [apCells, slCells, Option.some.injEq] at h1
    simp only [lenV, Option.some.injEq] at h2
    subst h1; subst h2
    simp only [VR] at hy
    obtain ⟨a, rfl⟩ := hy
    refine ⟨[], by simp [PR], by simp, by simp, by simp [OneL], by simp [Go.Builtin.lenOf], ?_⟩
    intro k w' hk _
    have : k = 0 := by omega
    subst this
    cases a with
    | none => simp [Go.Builtin.firstCells]
    | some a => simp [Go.Builtin.firstCells, Go.loadCells, Go.loadCellsFrom]
  | sl cs len =>
    simp only [apCells, slCells] at h1
    split at h1
    · rename_i hl
      cases h1
      simp only [lenV, Option.some.injEq] at h2
      subst h2
      simp only [VR] at hy
      obtain ⟨a, cap, rfl, h3, h4⟩ := hy
      rcases h4 with ⟨rfl, rfl⟩ | ⟨b, o, arr, e, f, rfl, h5, h6, h7⟩
      · refine ⟨[], by simp [PR], by simp, by simp, by simp [OneL], by simp [Go.Builtin.lenOf], ?_⟩
        intro k w' hk _
        have : k = 0 := by omega
        subst this
        cases a with
        | none => simp [Go.Builtin.firstCells]
        | some a => simp [Go.Builtin.firstCells, Go.loadCells, Go.loadCellsFrom]
      · have hb := hw.keep _ _ (hw.ro _ _ h5)
        have hlen := h7.len
        have h7' := (PR.mono (h' := g.rho) (RoE.refl _) _ (fun _ _ e => by cases e) h7).take xs.length
        rw [List.take_length] at h7'
        refine ⟨(arr.toList.drop o).take xs.length, h7', hl, ?_, ?_, by simp [Go.Builtin.lenOf], ?_⟩
        · rw [List.length_take]; omega
        · exact h6
        · intro k w' hk hw'
          have hk' : k * esz ≤ xs.length := by rw [hl]; exact Nat.mul_le_mul_right _ hk
          rw [List.take_take, Nat.min_eq_left hk']
          refine Go.run_firstCells_some w' esz k _ _ _ _ ?_ ?_
          · rw [List.length_take]; omega
          · intro j u hj
            rw [add_none, cell_of (by rw [hw']; exact hb)]
            rw [List.getElem?_take] at hj
            split at hj
            · rw [List.getElem?_drop] at hj
              simpa using hj
            · cases hj
    · cases h1
  | ms l off len esz' =>
    simp only [apCells, slCells] at h1
    split at h1
    · rename_i cs r hm
      split at h1
      · rename_i hc
        obtain ⟨rfl, hc⟩ := hc
        cases h1
        simp only [lenV, Option.some.injEq] at h2
        subst h2
        simp only [VR] at hy
        obtain ⟨b, n, cap, h3, rfl, h4, h5⟩ := hy
        obtain ⟨b', n', h3', arr, e, f, h6, h7, h8, h9, h10⟩ := hw.obj l _ hm
        rw [h3] at h3'
        cases h3'
        have hlen := h9.len
        have hle : len * esz' ≤ cs.length - off := by omega
        refine ⟨(arr.toList.drop off).take (len * esz'), (h9.drop off).take _, ?_, ?_, ?_, by simp [Go.Builtin.lenOf], ?_⟩
        · rw [List.length_take, List.length_drop]; omega
        · rw [List.length_take, List.length_drop]; omega
        · intro u hu; exact h8 u (List.mem_of_mem_drop (List.mem_of_mem_take hu))
        · intro k w' hk hw'
          have hk' : k * esz' ≤ len * esz' := Nat.mul_le_mul_right _ hk
          rw [List.take_take, Nat.min_eq_left hk']
          refine Go.run_firstCells_some w' esz' k _ _ _ _ ?_ ?_
          · rw [List.length_take, List.length_drop]; omega
          · intro j u hj
            rw [add_none, cell_of (by rw [hw']; exact h6)]
            rw [List.getElem?_take] at hj
            split at hj
            · rw [List.getElem?_drop] at hj
              simpa using hj
            · cases hj
      · cases h1
    · rename_i cs hm
      split at h1
      · rename_i hc
        obtain ⟨rfl, hc⟩ := hc
        cases h1
        simp only [lenV, Option.some.injEq] at h2
        subst h2
        simp only [VR] at hy
        obtain ⟨b, n, cap, h3, rfl, h4, h5⟩ := hy
        obtain ⟨b', n', h3', arr, e, f, h6, h7, h8, h9, h10⟩ := hw.obj l _ hm
        rw [h3] at h3'
        cases h3'
        have hlen := h9.len
        have hle : len * esz' ≤ cs.length - off := by omega
        refine ⟨(arr.toList.drop off).take (len * esz'), (h9.drop off).take _, ?_, ?_, ?_, by simp [Go.Builtin.lenOf], ?_⟩
        · rw [List.length_take, List.length_drop]; omega
        · rw [List.length_take, List.length_drop]; omega
        · intro u hu; exact h8 u (List.mem_of_mem_drop (List.mem_of_mem_take hu))
        · intro k w' hk hw'
          have hk' : k * esz' ≤ len * esz' := Nat.mul_le_mul_right _ hk
          rw [List.take_take, Nat.min_eq_left hk']
          refine Go.run_firstCells_some w' esz' k _ _ _ _ ?_ ?_
          · rw [List.length_take, List.length_drop]; omega
          · intro j u hj
            rw [add_none, cell_of (by rw [hw']; exact h6)]
            rw [List.getElem?_take] at hj
            split at hj
            · rw [List.getElem?_drop] at hj
              simpa using hj
            · cases hj
      · cases h1
    · cases h1
  | _ => simp [apCells, slCells] at h1

theorem zeroL_ok {t : TypeId} {z : List V} (hz : zeroL P t = some z) (ro : Ro) (r : Rho) : ∃ zv, zeroIn P t = some zv ∧ PR ro z r zv.cells.toList ∧ z.length = zv.cells.size ∧ OneL zv.cells.toList := by
  simp only [zeroL, Option.bind_eq_some_iff] at hz
  obtain ⟨v, h1, h2⟩ := hz
  obtain ⟨h3, h4, h5⟩ := cvL_ok h2 ro r
  exact ⟨v, h1, h3, by simpa using h4, h5⟩

theorem zeroCells_ok (zero : Array Value) (n : Nat) (h : OneL zero.toList) : (Go.Builtin.zeroCells zero n).size = n * zero.size ∧ OneL (Go.Builtin.zeroCells zero n).toList := by
  unfold Go.Builtin.zeroCells
  constructor
  · simp
  · intro v hv
    simp at hv
    obtain ⟨i, hi, rfl⟩ := hv
    have hpos : 0 < zero.size := by
      rcases Nat.eq_zero_or_pos zero.size with h0 | h0
      · rw [h0] at hi; simp at hi
      · exact h0
    have hm : i % zero.size < zero.size := Nat.mod_lt _ hpos
    have := h (zero[i % zero.size]) (by simp)
    simpa [hm] using this

/-- The machine's append, where the new elements' cells are known. -/
theorem run_append_in {t u et : TypeId} {inf : Go.TypeInfo} (ht : P.underlying t = some (.slice et)) (hu : P.underlying u = some .string ∨ ∃ e2, P.underlying u = some (.slice e2)) (hi : P.info? et = some inf)
    {b len cap n : Nat} {v : Value} {news : List Value} {arr : Array Value} {e : TypeId} {f : Nat × Nat} (hb : w.heap[b]? = some (.cells arr e f)) (hl : (Go.Builtin.lenOf v).run P w = .ok n w)
    (hf : (Go.Builtin.firstCells inf.size n v).run P w = .ok news.toArray w) (hn : news.length = n * inf.size) (h1 : OneL news) (hfit : len + n ≤ cap) (hcap : cap * inf.size ≤ arr.size)
    (hfr : ∀ j, j < arr.size → ¬ (f.1 ≤ j ∧ j < f.2)) (ty : TypeId) :
    ∃ w', (Go.Builtin.append_ #[t, u] ty #[.slice (some ⟨b, 0, none⟩) len cap, v]).run P w = .ok (.slice (some ⟨b, 0, none⟩) (len + n) cap) w' ∧
      w'.heap[b]? = some (.cells (spliceL arr.toList (len * inf.size) news).toArray e f) ∧ (∀ c, c ≠ b → w'.heap[c]? = w.heap[c]?) ∧ WB w w' := by
  have hsz : len * inf.size + news.length ≤ arr.size := by
    rw [hn, ← Nat.add_mul]
    exact Nat.le_trans (Nat.mul_le_mul_right _ hfit) hcap
  obtain ⟨w', k1, k2, k3, k4⟩ := run_storeCells (P := P) (b := b) (o := len * inf.size) (e := e) (f := f) news 0 w arr hb (by omega) h1 hfr
  refine ⟨w', ?_, by simpa using k2, k3, k4⟩
  have hsize : (Go.sizeOf et).run P w = .ok inf.size w := run_sizeOf (by simp [sizeIn, hi])
  rcases hu with hu | ⟨e2, hu⟩
  · simp [Go.Builtin.append_, Go.run_underlying ht, hsize, Go.run_underlying hu, hl, hfit, hf, add_none, k1]
  · simp [Go.Builtin.append_, Go.run_underlying ht, hsize, Go.run_underlying hu, hl, hfit, hf, add_none, k1]

theorem run_append_new {t u et : TypeId} {inf : Go.TypeInfo} (ht : P.underlying t = some (.slice et)) (hu : P.underlying u = some .string ∨ ∃ e2, P.underlying u = some (.slice e2)) (hi : P.info? et = some inf)
    {base : Option Addr} {len cap n : Nat} {v zv : Value} {olds news : List Value} (hz : inf.zero = some zv) (hl : (Go.Builtin.lenOf v).run P w = .ok n w)
    (ho : ∀ w' : World, w'.heap = w.heap → (Go.Builtin.firstCells inf.size len (.slice base len cap)).run P w' = .ok olds.toArray w')
    (hf : ∀ w' : World, w'.heap = w.heap → (Go.Builtin.firstCells inf.size n v).run P w' = .ok news.toArray w') (hbig : len + n ≤ BIG) (hby : inf.bytes ≤ LIM) (hgrow : cap < len + n) (ty : TypeId) :
    ∃ nc w', len + n ≤ nc ∧ (Go.Builtin.append_ #[t, u] ty #[.slice base len cap, v]).run P w = .ok (.slice (some ⟨w.heap.size, 0, none⟩) (len + n) nc) w' ∧
      w'.heap = w.heap.push (.cells (olds.toArray ++ news.toArray ++ Go.Builtin.zeroCells zv.cells (nc - (len + n))) et) ∧ WB w w' := by
  have hsize : (Go.sizeOf et).run P w = .ok inf.size w := run_sizeOf (by simp [sizeIn, hi])
  have hn : ¬ (len + n ≤ cap) := by omega
  have h63 : ¬ (9223372036854775807 < ((len : Int) + (n : Int))) := by unfold BIG at hbig; omega
  have hcapb : Go.Builtin.nextslicecap (len + n) cap * inf.bytes ≤ 2 * BIG * LIM := by
    refine Nat.mul_le_mul ?_ hby
    exact Nat.le_trans (Go.nextslicecap_le hgrow) (Nat.mul_le_mul_left _ hbig)
  have h48 : ¬ (281474976710656 < Go.Builtin.nextslicecap (len + n) cap * inf.bytes) := by unfold BIG LIM at hcapb; omega
  let w1 : World := { w with drawn := w.drawn + 1 }
  let nc := Go.grownCap w (len + n) cap et
  have hnc : len + n ≤ nc := by
    show len + n ≤ Go.Question.cut _ _
    simp [Go.Question.cut]
  refine ⟨nc, { w1 with heap := w.heap.push (.cells (olds.toArray ++ news.toArray ++ Go.Builtin.zeroCells zv.cells (nc - (len + n))) et) }, hnc, ?_, rfl, ⟨rfl, rfl, rfl, by simp⟩⟩
  have ho1 := ho w1 rfl
  have hf1 := hf w1 rfl
  have e1 : w.drew = w1 := rfl
  have e2 : ∀ z : Array Value, olds.toArray ++ (news.toArray ++ z) = (olds ++ news).toArray ++ z := by intro z; apply Array.ext'; simp
  rcases hu with hu | ⟨e3, hu⟩
  · simp [Go.Builtin.append_, Go.run_underlying ht, hsize, Go.run_underlying hu, hl, hn, h63, h48, Go.Question.forced, Go.typeInfo, hi, Go.zeroValue, hz, Go.newRow, e1, ho1, hf1]
    refine ⟨⟨rfl, rfl⟩, ?_⟩
    rw [e2]
    rfl
  · simp [Go.Builtin.append_, Go.run_underlying ht, hsize, Go.run_underlying hu, hl, hn, h63, h48, Go.Question.forced, Go.typeInfo, hi, Go.zeroValue, hz, Go.newRow, e1, ho1, hf1]
    refine ⟨⟨rfl, rfl⟩, ?_⟩
    rw [e2]
    rfl

theorem good_append (hw : WR P g m w) (hm : g.rho slot = none) {t u et : TypeId} {inf : Go.TypeInfo} (ht : P.underlying t = some (.slice et)) (hu : P.underlying u = some .string ∨ ∃ e2, P.underlying u = some (.slice e2))
    (hi : P.info? et = some inf) (hby : inf.bytes ≤ LIM) {z : List V} (hz : zeroL P et = some z) (hzl : z.length = inf.size) {x y v : V} {ws : Ws} {a b : Value} (hx : VR g.ro x g.rho a) (hy : VR g.ro y g.rho b) (ty : TypeId)
    (h : ((apCells m inf.size y).bind fun xs => (lenV m y).bind fun n =>
      match (generalizing := false) x with
      | .ns => if n = 0 then some (V.ns, ([] : Ws)) else if n ≤ BIG then some (.ms slot 0 n inf.size, [(slot, some (PObj.cells xs false))]) else none
      | .ms l 0 len esz' =>
        if n = 0 then some (.ms l 0 len esz', []) else
        match m l with
        | some (.cells cs false) =>
          if esz' = inf.size ∧ len * inf.size ≤ cs.length ∧ len + n ≤ BIG then
            some (.ms slot 0 (len + n) inf.size, [(l, none), (slot, some (.cells (cs.take (len * inf.size) ++ xs) false))])
          else none
        | some (.lit cs) =>
          if esz' = inf.size ∧ 0 < inf.size ∧ len * inf.size = cs.length ∧ len + n ≤ BIG then some (.ms slot 0 (len + n) inf.size, [(slot, some (.cells (cs ++ xs) false))]) else none
        | _ => none
      | _ => none) = some (v, ws)) : GoodV P g m w slot v ws ((Go.Builtin.append_ #[t, u] ty #[a, b]).run P w) := by
  simp only [Option.bind_eq_some_iff] at h
  obtain ⟨xs, h2, n, h3, h4⟩ := h
  obtain ⟨news, n1, n2, n3, n4, n5, n6⟩ := src_ok hw hy h2 h3
  obtain ⟨zv, z1, z2, z3, z4⟩ := zeroL_ok hz g.ro g.rho
  have hzv : inf.zero = some zv := by simpa [zeroIn, hi] using z1
  have hsize : (Go.sizeOf et).run P w = .ok inf.size w := run_sizeOf (by simp [sizeIn, hi])
  have nothing : ∀ {base : Option Addr} {len cap : Nat}, n = 0 → len ≤ cap → (Go.Builtin.append_ #[t, u] ty #[.slice base len cap, b]).run P w = .ok (.slice base len cap) w := by
    intro base len cap h0 hle
    subst h0
    have hf := n6 0 w (by omega) rfl
    simp only [Nat.zero_mul, List.take_zero] at hf
    rcases hu with hu | ⟨e3, hu⟩ <;> cases base <;>
      simp [Go.Builtin.append_, Go.run_underlying ht, hsize, Go.run_underlying hu, n5, hle, hf, Go.storeCells]
  have grow : ∀ {base : Option Addr} {len cap : Nat} {olds : List Value} {cs : List V}, cap < len + n → len + n ≤ BIG → PR g.ro cs g.rho olds → cs.length = olds.length → cs.length = len * inf.size → OneL olds →
      (∀ w' : World, w'.heap = w.heap → (Go.Builtin.firstCells inf.size len (.slice base len cap)).run P w' = .ok olds.toArray w') → ∀ (m' : Sto), WR P g m' w →
      GoodV P g m' w slot (.ms slot 0 (len + n) inf.size) [(slot, some (.cells (cs ++ xs) false))] ((Go.Builtin.append_ #[t, u] ty #[.slice base len cap, b]).run P w) := by
    intro base len cap olds cs hg hb hp hl hl2 ho hf m' hw'
    obtain ⟨nc, w', k1, k2, k3, k4⟩ := run_append_new (P := P) (w := w) ht hu hi hzv n5 hf (fun w' hw' => by
      have := n6 n w' (Nat.le_refl _) hw'
      rwa [List.take_of_length_le (by omega)] at this) hb hby hg ty
    obtain ⟨q1, q2⟩ := zeroCells_ok zv.cells (nc - (len + n)) z4
    have hold : OneL (olds.toArray ++ news.toArray ++ Go.Builtin.zeroCells zv.cells (nc - (len + n))).toList := by
      intro p hp
      simp only [Array.toList_append, List.mem_append] at hp
      rcases hp with (hp | hp) | hp
      · exact ho p hp
      · exact n4 p hp
      · exact q2 p hp
    have hrel : PR g.ro (cs ++ xs) g.rho (olds.toArray ++ news.toArray ++ Go.Builtin.zeroCells zv.cells (nc - (len + n))).toList := by
      have := (hp.append hl n1).append (l := olds ++ news) (k := (Go.Builtin.zeroCells zv.cells (nc - (len + n))).toList) (ds := []) (by simp; omega) (by simp [PR])
      simpa using this
    have hnew := newCells hw' hm hrel hold et
    refine ⟨_, w', g.rho.set slot (w.heap.size, (olds.toArray ++ news.toArray ++ Go.Builtin.zeroCells zv.cells (nc - (len + n))).size), k2, Rho.set_ext hm, fun l hl => rho_set_ne _ _ hl, ?_, hnew.heap k3, k4⟩
    simp only [VR]
    refine ⟨_, _, nc, rho_set_same _ _ _, rfl, k1, ?_⟩
    simp only [Array.size_append, List.size_toArray, q1, Nat.zero_add]
    rw [← z3, hzl, n3, ← hl, hl2, ← Nat.add_mul, ← Nat.add_mul]
    exact Nat.mul_le_mul_right _ (by omega)
  cases x with
  | ns =>
    simp only [VR] at hx
    obtain ⟨base, rfl⟩ := hx
    dsimp only at h4
    split at h4
    · rename_i h0
      simp only [Option.some.injEq, Prod.mk.injEq] at h4
      obtain ⟨rfl, rfl⟩ := h4
      refine GoodV.pure hw ?_ (nothing h0 (Nat.le_refl 0))
      simp [VR]
    · rename_i h0
      split at h4
      · rename_i hb
        simp only [Option.some.injEq, Prod.mk.injEq] at h4
        obtain ⟨rfl, rfl⟩ := h4
        have := grow (base := base) (len := 0) (cap := 0) (olds := []) (cs := []) (by omega) (by omega) (by simp [PR]) rfl (by simp) (by simp [OneL]) (fun w' _ => by
          cases base with
          | none => simp [Go.Builtin.firstCells]
          | some a => simp [Go.Builtin.firstCells, Go.loadCells, Go.loadCellsFrom]) m hw
        simpa using this
      · cases h4
  | ms l off len esz' =>
    cases off with
    | succ k => cases h4
    | zero =>
      simp only [VR] at hx
      obtain ⟨bl, k, cap, e1, rfl, e2, e3⟩ := hx
      replace h4 : (if n = 0 then some (V.ms l 0 len esz', ([] : Ws)) else
        match m l with
        | some (.cells cs false) =>
          if esz' = inf.size ∧ len * inf.size ≤ cs.length ∧ len + n ≤ BIG then
            some (.ms slot 0 (len + n) inf.size, [(l, none), (slot, some (.cells (cs.take (len * inf.size) ++ xs) false))])
          else none
        | some (.lit cs) =>
          if esz' = inf.size ∧ 0 < inf.size ∧ len * inf.size = cs.length ∧ len + n ≤ BIG then some (.ms slot 0 (len + n) inf.size, [(slot, some (.cells (cs ++ xs) false))]) else none
        | _ => none) = some (v, ws) := h4
      split at h4
      · rename_i h0
        simp only [Option.some.injEq, Prod.mk.injEq] at h4
        obtain ⟨rfl, rfl⟩ := h4
        refine GoodV.pure hw ?_ (nothing h0 e2)
        simp only [VR]
        exact ⟨bl, k, cap, e1, rfl, e2, e3⟩
      · rename_i h0
        split at h4
        · rename_i cs hml
          split at h4
          · rename_i hc
            obtain ⟨rfl, hc2, hc3⟩ := hc
            simp only [Option.some.injEq, Prod.mk.injEq] at h4
            obtain ⟨rfl, rfl⟩ := h4
            obtain ⟨b', k', e1', arr, e, f, f1, f2, f3, f4, f5, f6⟩ := hw.obj l _ hml
            rw [e1] at e1'
            cases e1'
            have hlen := f4.len
            by_cases hfit : len + n ≤ cap
            · obtain ⟨w', k1, k2, k3, k4⟩ := run_append_in (P := P) (w := w) (v := b) ht hu hi f1 n5 (by
                have := n6 n w (Nat.le_refl _) rfl
                rwa [List.take_of_length_le (by omega)] at this) n3 n4 hfit (by omega) (by rw [f2]; exact f5) ty
              have hsp : (spliceL arr.toList (len * inf.size) news).length = arr.size := by
                rw [spliceL_len]
                · simp
                · rw [n3, ← Nat.add_mul]
                  have := Nat.mul_le_mul_right inf.size hfit
                  simp only [Array.length_toList]
                  omega
              refine ⟨_, w', g.rho.set slot (bl, k), k1, Rho.set_ext hm, fun l hl => rho_set_ne _ _ hl, ?_, ?_, k4⟩
              · simp only [VR]
                exact ⟨bl, k, cap, rho_set_same _ _ _, rfl, hfit, e3⟩
              · refine WR.move hw hml e1 hm (by simpa using f6) k3 ?_
                refine ⟨_, e, f, k2, by simp [hsp, f2], by simpa using f3.splice n4, ?_, f5, f6⟩
                have hh : PR g.ro (cs.take (len * inf.size) ++ xs) g.rho (spliceL arr.toList (len * inf.size) news) := by
                  have := ((f4.take (len * inf.size)).append (by simp at hlen ⊢; omega) n1).append (ds := []) (k := arr.toList.drop (len * inf.size + news.length)) (by simp at hlen ⊢; omega) (by simp [PR])
                  simpa [spliceL] using this
                simpa using PR.mono (RoE.refl _) _ (Rho.set_ext hm) hh
            · have hcs : (cs.take (len * inf.size)).length = len * inf.size := by rw [List.length_take]; omega
              have := grow (base := some ⟨bl, 0, none⟩) (len := len) (cap := cap) (olds := arr.toList.take (len * inf.size)) (cs := cs.take (len * inf.size)) (by omega) hc3 (f4.take _) (by rw [hcs, List.length_take]; omega) hcs
                (fun p hp => f3 p (List.mem_of_mem_take hp)) (fun w' hw' => by
                  refine Go.run_firstCells_some w' inf.size len _ _ _ _ (by rw [List.length_take]; omega) ?_
                  intro j p hj
                  rw [add_none, cell_of (by rw [hw']; exact f1)]
                  rw [List.getElem?_take] at hj
                  split at hj
                  · simpa using hj
                  · cases hj) (m.set l none) (hw.drop l)
              exact this
          · cases h4
        · rename_i cs hml
          split at h4
          · rename_i hc
            obtain ⟨rfl, hc1, hc2, hc3⟩ := hc
            simp only [Option.some.injEq, Prod.mk.injEq] at h4
            obtain ⟨rfl, rfl⟩ := h4
            obtain ⟨b', k', e1', arr, e, f, f1, f2, f3, f4, f5, f6, f7⟩ := hw.obj l _ hml
            rw [e1] at e1'
            cases e1'
            have hcap : cap ≤ len := by
              refine Nat.le_of_mul_le_mul_right ?_ hc1
              rw [hc2, f7]
              omega
            exact grow (base := some ⟨bl, 0, none⟩) (len := len) (cap := cap) (olds := arr.toList) (cs := cs) (by omega) hc3 f4 (by rw [f7, ← f2, Array.length_toList]) hc2.symm f3 (fun w' hw' => by
              refine Go.run_firstCells_some w' inf.size len _ _ _ _ (by rw [hc2, f7, ← f2, Array.length_toList]) ?_
              intro j p hj
              rw [add_none, cell_of (by rw [hw']; exact f1)]
              simpa using hj) m hw
          · cases h4
        · cases h4
  | _ => cases h4

end
end Pi


/- The machine's operations against the pure ones: the rest of them. -/
namespace Pi
open Go (IntKind TypeId FuncId Fn BinOp UnOp LoopState Value Addr World Program undef Operand Sem Result)

section
variable {P : Program} {g : G} {m : Sto} {w : World} {slot : Nat}

theorem good_copy (hw : WR P g m w) {t et : TypeId} {u : List TypeId} {n : Nat} (ht : P.underlying t = some (.slice et)) (hn : sizeIn P et = some n) {x y v : V} {ws : Ws} {a b : Value} (hx : VR g.ro x g.rho a) (hy : VR g.ro y g.rho b) (ty : TypeId)
    (h : ((apCells m n y).bind fun xs => (lenV m y).bind fun k =>
      match (generalizing := false) x with
      | .ms l off len esz' => match m l with
        | some (.cells cs false) =>
          if esz' = n ∧ off + len * n ≤ cs.length then
            some (V.i .i64 (min k len : Nat), [(l, some (PObj.cells (splice cs off (xs.take (min k len * n))) false))])
          else none
        | _ => none
      | .ns => some (V.i .i64 0, ([] : Ws))
      | _ => none) = some (v, ws)) : GoodV P g m w slot v ws ((Go.Builtin.copy_ (t :: u).toArray ty #[a, b]).run P w) := by
  simp only [Option.bind_eq_some_iff] at h
  obtain ⟨xs, h2, k, h3, h4⟩ := h
  obtain ⟨news, n1, n2, n3, n4, n5, n6⟩ := src_ok hw hy h2 h3
  cases x with
  | ms l off len esz' =>
    dsimp only at h4
    split at h4
    · rename_i cs hml
      split at h4
      · rename_i hc
        obtain ⟨rfl, hc2⟩ := hc
        simp only [Option.some.injEq, Prod.mk.injEq] at h4
        obtain ⟨rfl, rfl⟩ := h4
        simp only [VR] at hx
        obtain ⟨bl, kk, cap, e1, rfl, e2, e3⟩ := hx
        obtain ⟨b', k', e1', arr, e, f, f1, f2, f3, f4, f5, f6⟩ := hw.obj l _ hml
        rw [e1] at e1'
        cases e1'
        have hlen := f4.len
        have hmin : min k len ≤ k := Nat.min_le_left _ _
        have hmul : min k len * esz' ≤ k * esz' := Nat.mul_le_mul_right _ hmin
        have hmul2 : min k len * esz' ≤ len * esz' := Nat.mul_le_mul_right _ (Nat.min_le_right _ _)
        have htl : (news.take (min k len * esz')).length = min k len * esz' := by rw [List.length_take]; omega
        have hxl : (xs.take (min k len * esz')).length = min k len * esz' := by rw [List.length_take]; omega
        have hfc := n6 (min k len) w hmin rfl
        obtain ⟨w', k1, k2, k3, k4⟩ := run_storeCells (P := P) (b := bl) (o := off) (e := e) (f := f) (news.take (min k len * esz')) 0 w arr f1 (by rw [htl]; simp at hlen; omega) (fun p hp => n4 p (List.mem_of_mem_take hp)) (by rw [f2]; exact f5)
        refine ⟨.int .i64 (min k len : Nat), w', g.rho, ?_, RhoE.refl _, fun _ _ => rfl, by simp [VR], ?_, k4⟩
        · have hmm : Nat.min k len = min k len := rfl
          simp [Go.Builtin.copy_, Go.run_underlying ht, n5, run_sizeOf hn, hmm, hfc, k1, Go.goInt]
        · refine WR.put hw hml e1 (by simpa using f6) k3 ?_
          refine ⟨_, e, f, k2, ?_, by simpa using f3.splice (fun p hp => n4 p (List.mem_of_mem_take hp)), ?_, f5, f6⟩
          · rw [← f2]
            have := spliceL_len arr.toList (off + 0) (news.take (min k len * esz')) (by rw [htl]; simp at hlen ⊢; omega)
            simpa using this
          · simpa using f4.splice (n1.take _) (by rw [htl, hxl]) (by rw [hxl]; omega)
      · cases h4
    · cases h4
  | ns =>
    simp only [Option.some.injEq, Prod.mk.injEq] at h4
    obtain ⟨rfl, rfl⟩ := h4
    simp only [VR] at hx
    obtain ⟨a', rfl⟩ := hx
    have hfc := n6 0 w (Nat.zero_le _) rfl
    refine ⟨.int .i64 0, w, g.rho, ?_, RhoE.refl _, fun _ _ => rfl, by simp [VR], hw, WB.refl w⟩
    have hmm : Nat.min k 0 = 0 := Nat.min_zero k
    cases a' with
    | none => simp [Go.Builtin.copy_, Go.run_underlying ht, n5, run_sizeOf hn, hmm, hfc, Go.goInt]
    | some a' => simp [Go.Builtin.copy_, Go.run_underlying ht, n5, run_sizeOf hn, hmm, hfc, Go.goInt, Go.storeCells]
  | _ => cases h4

theorem good_makeSlice (hw : WR P g m w) (hm : g.rho slot = none) {t et : TypeId} {inf : Go.TypeInfo} (ht : P.underlying t = some (.slice et)) (hi : P.info? et = some inf) (h1 : 1 ≤ inf.size) (hby : inf.bytes ≤ LIM)
    {z : List V} (hz : zeroL P et = some z) (hzl : z.length = inf.size) {x y v : V} {ws : Ws} {a b : Value} (hx : VR g.ro x g.rho a) (hy : VR g.ro y g.rho b)
    (h : (match (generalizing := false) x, y with
      | .i .i64 n, .i .i64 c =>
        if 0 ≤ n ∧ n = c ∧ n ≤ BIG then
          if n = 0 then some (V.ns, ([] : Ws)) else some (.ms slot 0 n.toNat inf.size, [(slot, some (PObj.cells (zeros z n.toNat) false))])
        else none
      | _, _ => none) = some (v, ws)) : GoodV P g m w slot v ws ((Go.Instr.makeSlice t a b).run P w) := by
  obtain ⟨n, c, rfl, rfl, hh⟩ : ∃ n c, x = .i .i64 n ∧ y = .i .i64 c ∧ (if 0 ≤ n ∧ n = c ∧ n ≤ BIG then
          if n = 0 then some (V.ns, ([] : Ws)) else some (.ms slot 0 n.toNat inf.size, [(slot, some (PObj.cells (zeros z n.toNat) false))])
        else none) = some (v, ws) := by
    split at h
    · exact ⟨_, _, rfl, rfl, h⟩
    · cases h
  clear h
  have h := hh
  clear hh
  by_cases hc : 0 ≤ n ∧ n = c ∧ n ≤ BIG
  · rw [if_pos hc] at h
    obtain ⟨c1, rfl, c3⟩ := hc
    simp only [VR] at hx hy
    subst hx; subst hy
    obtain ⟨zv, z1, z2, z3, z4⟩ := zeroL_ok hz g.ro g.rho
    have hzv : inf.zero = some zv := by simpa [zeroIn, hi] using z1
    have hsize : (Go.sizeOf et).run P w = .ok inf.size w := run_sizeOf (by simp [sizeIn, hi])
    have hwrap : IntKind.i64.wrap n = n := Go.IntWalk.i64_in n (by unfold BIG at c3; omega)
    obtain ⟨k, rfl⟩ := Int.eq_ofNat_of_zero_le c1
    have hk : k ≤ BIG := by omega
    have hbig : ¬ (281474976710656 < (inf.bytes : Int) * (k : Int)) := by
      have : inf.bytes * k ≤ LIM * BIG := Nat.mul_le_mul hby hk
      unfold LIM BIG at this
      have h2 : ((inf.bytes * k : Nat) : Int) ≤ ((4096 * 2147483648 : Nat) : Int) := Int.ofNat_le.2 this
      simp only [Int.natCast_mul] at h2
      omega
    split at h
    · rename_i h0
      have h0 : k = 0 := by omega
      subst h0
      simp only [Option.some.injEq, Prod.mk.injEq] at h
      obtain ⟨rfl, rfl⟩ := h
      refine ⟨.slice (some ⟨w.heap.size, 0, none⟩) 0 0, { w with heap := w.heap.push (.cells #[] et) }, g.rho, ?_, RhoE.refl _, fun _ _ => rfl, by simp [VR], hw.push _, WB.push _ _⟩
      have e0 : ((Array.range 0).map fun _ => (default : Value)) = #[] := by simp
      have hw0 : IntKind.i64.wrap 0 = 0 := by decide
      simp [Go.Instr.makeSlice, Go.run_underlying ht, Go.asInt, Go.asIntOf, Go.typeInfo, hi, hw0, hsize, Go.newRow, e0]
    · rename_i h0
      simp only [Option.some.injEq, Prod.mk.injEq] at h
      obtain ⟨rfl, rfl⟩ := h
      simp only [Int.toNat_natCast]
      have hk0 : k ≠ 0 := by omega
      obtain ⟨q1, q2, q3⟩ := zeros_rel z2 z3 z4 k (k * inf.size) (by rw [hzl])
      refine ⟨.slice (some ⟨w.heap.size, 0, none⟩) k k, { w with heap := w.heap.push (.cells ((Array.range (k * inf.size)).map (zv.cells[· % zv.cells.size]!)) et) }, g.rho.set slot (w.heap.size, _), ?_, Rho.set_ext hm, fun l hl => rho_set_ne _ _ hl, ?_, newCells hw hm q1 q3 et, WB.push _ _⟩
      · have hneg : ¬ ((k : Int) < 0) := by omega
        have hne : ¬ (k * inf.size = 0) := by
          intro hh
          rcases Nat.mul_eq_zero.1 hh with h | h <;> omega
        simp [Go.Instr.makeSlice, Go.run_underlying ht, Go.asInt, Go.asIntOf, Go.typeInfo, hi, hwrap, hsize, Go.newRow, hbig, Go.zeroValue, hzv, hneg, hne]
      · simp only [VR]
        refine ⟨_, _, k, rho_set_same _ _ _, rfl, Nat.le_refl _, ?_⟩
        simp
  · rw [if_neg hc] at h
    cases h

theorem bnd_ok {e : Env} {tm : Array Value} (he : ER g e tm) {o : Option Operand} {o' : Option Opd} (ho : opdO o = some o') {d r : Nat} (h : bnd e o' d = some r) :
    (o = none ∧ r = d) ∨ ∃ x k, o = some x ∧ evT tm x = .int k r := by
  cases o with
  | none =>
    simp only [opdO, Option.some.injEq] at ho
    subst ho
    simp only [bnd, Option.some.injEq] at h
    exact .inl ⟨rfl, h.symm⟩
  | some x =>
    simp only [opdO, Option.map_eq_some_iff] at ho
    obtain ⟨y, h1, rfl⟩ := ho
    have hv := opd_ok he h1
    simp only [bnd] at h
    split at h
    · rename_i k n hy
      split at h
      · rename_i h0
        simp only [Option.some.injEq] at h
        rw [hy] at hv
        simp only [VR] at hv
        refine .inr ⟨x, k, rfl, ?_⟩
        rw [hv, ← h]
        congr 1
        omega
      · cases h
    · cases h

theorem run_bound {k : IntKind} {r y : Nat} (h : r ≤ y) (c : Go.BoundsCode) : (Go.Instr.sliceBound (.int k r) y c).run P w = .ok r w := by
  have h2 : (r : Int) ≤ (y : Int) := by omega
  simp [Go.Instr.sliceBound, Go.asIntOf, h2, h]

theorem run_bound0 {k : IntKind} {y : Nat} (c : Go.BoundsCode) : (Go.Instr.sliceBound (.int k 0) y c).run P w = .ok 0 w := by
  have := run_bound (P := P) (w := w) (k := k) (Nat.zero_le y) c
  simpa using this

/-- The bounds of a slice expression with no third one. -/
theorem run_bounds {e : Env} {tm : Array Value} (he : ER g e tm) {lo hi : Option Operand} {lo' hi' : Option Opd} (hlo : opdO lo = some lo') (hhi : opdO hi = some hi') {len cap l h : Nat}
    (h1 : bnd e hi' len = some h) (h2 : bnd e lo' 0 = some l) (h3 : l ≤ h) (h4 : h ≤ cap) (sl : Bool) :
    (Go.Instr.sliceBounds sl len cap (lo.map (evT tm)) (hi.map (evT tm)) none).run P w = .ok (l, h, cap) w := by
  have q1 := bnd_ok he hhi h1
  have q2 := bnd_ok he hlo h2
  rcases q1 with ⟨rfl, rfl⟩ | ⟨x, k, rfl, e1⟩ <;> rcases q2 with ⟨rfl, rfl⟩ | ⟨y, k', rfl, e2⟩
  · simp [Go.Instr.sliceBounds]
  · simp [Go.Instr.sliceBounds, e2, run_bound h3]
  · simp [Go.Instr.sliceBounds, e1, run_bound h4]
  · simp [Go.Instr.sliceBounds, e1, e2, run_bound h3, run_bound h4]

theorem good_ss (hw : WR P g m w) {e : Env} {tm : Array Value} (he : ER g e tm) {t : TypeId} (ht : P.underlying t = some .string) {x v : V} {a : Value} {ws : Ws} (hx : VR g.ro x g.rho a) {lo hi : Option Operand} {lo' hi' : Option Opd} (hlo : opdO lo = some lo') (hhi : opdO hi = some hi')
    (h : (match (generalizing := false) x with
      | .s a => (bnd e hi' a.size).bind fun h => (bnd e lo' 0).bind fun l => if l ≤ h ∧ h ≤ a.size then some (V.s (a.extract l h), ([] : Ws)) else none
      | _ => none) = some (v, ws)) : GoodV P g m w slot v ws ((Go.Instr.sliceAt t a (lo.map (evT tm)) (hi.map (evT tm)) none).run P w) := by
  cases x with
  | s b =>
    simp only [Option.bind_eq_some_iff] at h
    obtain ⟨h', h1, l, h2, h3⟩ := h
    split at h3
    · rename_i hc
      simp only [Option.some.injEq, Prod.mk.injEq] at h3
      obtain ⟨rfl, rfl⟩ := h3
      simp only [VR] at hx
      subst hx
      refine GoodV.pure hw (v' := .string (b.extract l h')) (by simp [VR]) ?_
      simp [Go.Instr.sliceAt, Go.Instr.slice, Go.run_underlying ht, run_bounds (P := P) (w := w) he hlo hhi h1 h2 hc.1 hc.2]
    · cases h3
  | _ => cases h

theorem sliced (b off l esz : Nat) (cap : Nat) (hl : l ≠ cap) : (if cap = l then some (⟨b, off, none⟩ : Addr) else (some (⟨b, off, none⟩ : Addr)).map (·.add (l * esz))) = some ⟨b, off + l * esz, none⟩ := by
  rw [if_neg (fun e => hl e.symm)]
  simp [add_none]

theorem good_sv (hw : WR P g m w) {e : Env} {tm : Array Value} (he : ER g e tm) {t et n : TypeId} (ht : P.underlying t = some (.slice et)) (hn : sizeIn P et = some n) {x v : V} {a : Value} {ws : Ws} (hx : VR g.ro x g.rho a)
    {lo hi : Option Operand} {lo' hi' : Option Opd} (hlo : opdO lo = some lo') (hhi : opdO hi = some hi')
    (h : (match (generalizing := false) x with
      | .ns => (bnd e hi' 0).bind fun h => (bnd e lo' 0).bind fun l => if l = 0 ∧ h = 0 then some (V.ns, ([] : Ws)) else none
      | .sl cs k => (bnd e hi' k).bind fun h => (bnd e lo' 0).bind fun l =>
        if l ≤ h ∧ h ≤ k ∧ cs.length = k * n then some (.sl ((cs.drop (l * n)).take ((h - l) * n)) (h - l), []) else none
      | .ms b off k esz' => (bnd e hi' k).bind fun h => (bnd e lo' 0).bind fun l =>
        if l ≤ h ∧ h ≤ k ∧ esz' = n then
          (if l = 0 then some (.ms b off h n, []) else if h = l then some (.sl [] 0, []) else some (.ms b (off + l * n) (h - l) n, []))
        else none
      | _ => none) = some (v, ws)) : GoodV P g m w slot v ws ((Go.Instr.sliceAt t a (lo.map (evT tm)) (hi.map (evT tm)) none).run P w) := by
  cases x with
  | ns =>
    simp only [Option.bind_eq_some_iff] at h
    obtain ⟨h', h2, l, h3, h4⟩ := h
    split at h4
    · rename_i hc
      obtain ⟨rfl, rfl⟩ := hc
      simp only [Option.some.injEq, Prod.mk.injEq] at h4
      obtain ⟨rfl, rfl⟩ := h4
      simp only [VR] at hx
      obtain ⟨base, rfl⟩ := hx
      refine GoodV.pure hw (v' := .slice base 0 0) (by simp [VR]) ?_
      simp [Go.Instr.sliceAt, Go.Instr.slice, Go.run_underlying ht, run_sizeOf hn, run_bounds (P := P) (w := w) he hlo hhi h2 h3 (Nat.le_refl 0) (Nat.le_refl 0)]
    · cases h4
  | sl cs k =>
    simp only [Option.bind_eq_some_iff] at h
    obtain ⟨h', h2, l, h3, h4⟩ := h
    split at h4
    · rename_i hc
      obtain ⟨c1, c2, c3⟩ := hc
      simp only [Option.some.injEq, Prod.mk.injEq] at h4
      obtain ⟨rfl, rfl⟩ := h4
      simp only [VR] at hx
      obtain ⟨base, cap, rfl, k1, k2⟩ := hx
      refine GoodV.pure hw (v' := .slice (if cap = l then base else base.map (·.add (l * n))) (h' - l) (cap - l)) ?_ ?_
      · simp only [VR]
        refine ⟨_, _, rfl, by omega, ?_⟩
        by_cases hz : h' = l
        · subst hz; left; simp
        · right
          rcases k2 with ⟨rfl, rfl⟩ | ⟨b, o, arr, ee, f, rfl, k3, k4, k5⟩
          · omega
          · refine ⟨b, o + l * n, arr, ee, f, sliced b o l n cap (by omega), k3, k4.part (by simp [List.length_take, List.length_drop]; omega), ?_⟩
            have := (k5.drop (l * n)).takeL ((h' - l) * n)
            rwa [List.drop_drop] at this
      · simp [Go.Instr.sliceAt, Go.Instr.slice, Go.run_underlying ht, run_sizeOf hn, run_bounds (P := P) (w := w) he hlo hhi h2 h3 c1 (Nat.le_trans c2 k1)]
    · cases h4
  | ms b off k esz' =>
    simp only [Option.bind_eq_some_iff] at h
    obtain ⟨h', h2, l, h3, h4⟩ := h
    split at h4
    · rename_i hc
      obtain ⟨c1, c2, rfl⟩ := hc
      simp only [VR] at hx
      obtain ⟨bl, nn, cap, k1, rfl, k2, k3⟩ := hx
      have hrun : (Go.Instr.sliceAt t (.slice (some ⟨bl, off, none⟩) k cap) (lo.map (evT tm)) (hi.map (evT tm)) none).run P w =
          .ok (.slice (if cap = l then some ⟨bl, off, none⟩ else (some (⟨bl, off, none⟩ : Addr)).map (·.add (l * esz'))) (h' - l) (cap - l)) w := by
        simp [Go.Instr.sliceAt, Go.Instr.slice, Go.run_underlying ht, run_sizeOf hn, run_bounds (P := P) (w := w) he hlo hhi h2 h3 c1 (Nat.le_trans c2 k2)]
      split at h4
      · rename_i hl
        subst hl
        simp only [Option.some.injEq, Prod.mk.injEq] at h4
        obtain ⟨rfl, rfl⟩ := h4
        refine GoodV.pure hw ?_ hrun
        simp only [VR]
        refine ⟨bl, nn, cap, k1, ?_, by omega, k3⟩
        simp [add_none]
      · rename_i hl
        split at h4
        · rename_i hh
          simp only [Option.some.injEq, Prod.mk.injEq] at h4
          obtain ⟨rfl, rfl⟩ := h4
          refine GoodV.pure hw ?_ hrun
          simp only [VR]
          exact ⟨_, _, by rw [hh, Nat.sub_self], by omega, .inl (by simp)⟩
        · rename_i hh
          simp only [Option.some.injEq, Prod.mk.injEq] at h4
          obtain ⟨rfl, rfl⟩ := h4
          refine GoodV.pure hw ?_ hrun
          simp only [VR]
          refine ⟨bl, nn, cap - l, k1, by rw [sliced bl off l esz' cap (by omega)], by omega, ?_⟩
          have : (cap - l) * esz' = cap * esz' - l * esz' := Nat.sub_mul _ _ _
          have : l * esz' ≤ cap * esz' := Nat.mul_le_mul_right _ (by omega)
          omega
    · cases h4
  | _ => cases h

theorem good_sv3 (hw : WR P g m w) {e : Env} {tm : Array Value} (he : ER g e tm) {t et n : TypeId} (ht : P.underlying t = some (.slice et)) (hn : sizeIn P et = some n) {x v : V} {a : Value} {ws : Ws} (hx : VR g.ro x g.rho a)
    {lo hi mx : Option Operand} {lo' hi' : Option Opd} {mx' : Opd} (hlo : opdO lo = some lo') (hhi : opdO hi = some hi') (hmx : opdO mx = some (some mx'))
    (h : ((bnd e (some mx') 0).bind fun c => (bnd e hi' 0).bind fun h => (bnd e lo' 0).bind fun l =>
        (lenSl x).bind fun n => if c = l ∧ h = l ∧ hi'.isSome ∧ c ≤ n then some (V.ns, ([] : Ws)) else none) = some (v, ws)) :
    GoodV P g m w slot v ws ((Go.Instr.sliceAt t a (lo.map (evT tm)) (hi.map (evT tm)) (mx.map (evT tm))).run P w) := by
  simp only [Option.bind_eq_some_iff] at h
  obtain ⟨c, h1, h', h2, l, h3, k, h4, h5⟩ := h
  split at h5
  · rename_i hc
    obtain ⟨rfl, rfl, c3, c4⟩ := hc
    simp only [Option.some.injEq, Prod.mk.injEq] at h5
    obtain ⟨rfl, rfl⟩ := h5
    obtain ⟨base, cap, rfl, hcap⟩ : ∃ base cap, a = .slice base k cap ∧ k ≤ cap := by
      cases x <;> simp only [lenSl] at h4 <;> cases h4
      · simp only [VR] at hx; obtain ⟨b, rfl⟩ := hx; exact ⟨b, 0, rfl, Nat.le_refl _⟩
      · simp only [VR] at hx; obtain ⟨b, cap, rfl, h6, _⟩ := hx; exact ⟨b, cap, rfl, h6⟩
      · simp only [VR] at hx; obtain ⟨b, n, cap, _, rfl, h6, _⟩ := hx; exact ⟨_, cap, rfl, h6⟩
    have q1 := bnd_ok he hmx h1
    have q2 := bnd_ok he hhi h2
    have q3 := bnd_ok he hlo h3
    rcases q1 with ⟨rfl, _⟩ | ⟨y1, k1, rfl, e1⟩
    · simp [opdO] at hmx
    · rcases q2 with ⟨rfl, _⟩ | ⟨y2, k2, rfl, e2⟩
      · simp only [opdO, Option.some.injEq] at hhi
        subst hhi
        cases c3
      · refine GoodV.pure hw (v' := .slice base 0 0) (by simp [VR]) ?_
        rcases q3 with ⟨rfl, rfl⟩ | ⟨y3, k3, rfl, e3⟩
        · simp [Go.Instr.sliceAt, Go.Instr.slice, Go.run_underlying ht, run_sizeOf hn, Go.Instr.sliceBounds, e1, e2, run_bound0]
        · simp [Go.Instr.sliceAt, Go.Instr.slice, Go.run_underlying ht, run_sizeOf hn, Go.Instr.sliceBounds, e1, e2, e3, run_bound (P := P) (w := w) (k := k1) (Nat.le_trans c4 hcap), run_bound (P := P) (w := w) (k := k2) (Nat.le_refl h'), run_bound (P := P) (w := w) (k := k3) (Nat.le_refl h')]
  · cases h5

theorem good_sa (hw : WR P g m w) {e : Env} {tm : Array Value} (he : ER g e tm) {t et n len : Nat} (ht : P.underlying t = some (.array len et)) (hn : sizeIn P et = some n) {x v : V} {a : Value} {ws : Ws} (hx : VR g.ro x g.rho a)
    {lo hi : Option Operand} {lo' hi' : Option Opd} (hlo : opdO lo = some lo') (hhi : opdO hi = some hi')
    (h : (match (generalizing := false) x with
      | .p b off => (bnd e hi' len).bind fun h => (bnd e lo' 0).bind fun l =>
        match m b with
        | some (.cells cs _) =>
          if l ≤ h ∧ h ≤ len ∧ off + len * n ≤ cs.length then
            (if l = 0 then some (V.ms b off h n, ([] : Ws)) else if h = l then some (.sl [] 0, []) else some (.ms b (off + l * n) (h - l) n, []))
          else none
        | _ => none
      | _ => none) = some (v, ws)) : GoodV P g m w slot v ws ((Go.Instr.sliceAt t a (lo.map (evT tm)) (hi.map (evT tm)) none).run P w) := by
  cases x with
  | p b off =>
    simp only [Option.bind_eq_some_iff] at h
    obtain ⟨h', h2, l, h3, h4⟩ := h
    split at h4
    · rename_i cs r hml
      split at h4
      · rename_i hc
        obtain ⟨c1, c2, c3⟩ := hc
        simp only [VR] at hx
        obtain ⟨bl, nn, k1, rfl⟩ := hx
        obtain ⟨b', n', k1', arr, ee, f, f1, f2, f3, f4, f5, f6⟩ := hw.obj b _ hml
        rw [k1] at k1'
        cases k1'
        have hlen := f4.len
        simp only [Array.length_toList] at hlen
        have hrun : (Go.Instr.sliceAt t (.pointer (some ⟨bl, off, none⟩)) (lo.map (evT tm)) (hi.map (evT tm)) none).run P w =
            .ok (.slice (some (if len = l then ⟨bl, off, none⟩ else (⟨bl, off, none⟩ : Addr).add (l * n))) (h' - l) (len - l)) w := by
          simp [Go.Instr.sliceAt, Go.Instr.sureAddr, Go.run_underlying ht, run_sizeOf hn, run_bounds (P := P) (w := w) he hlo hhi h2 h3 c1 c2]
        split at h4
        · rename_i hl
          subst hl
          simp only [Option.some.injEq, Prod.mk.injEq] at h4
          obtain ⟨rfl, rfl⟩ := h4
          refine GoodV.pure hw ?_ hrun
          simp only [VR]
          refine ⟨bl, nn, len, k1, ?_, by omega, by omega⟩
          simp [add_none]
        · rename_i hl
          split at h4
          · rename_i hh
            simp only [Option.some.injEq, Prod.mk.injEq] at h4
            obtain ⟨rfl, rfl⟩ := h4
            refine GoodV.pure hw ?_ hrun
            simp only [VR]
            exact ⟨_, _, by rw [hh, Nat.sub_self], by omega, .inl (by simp)⟩
          · rename_i hh
            simp only [Option.some.injEq, Prod.mk.injEq] at h4
            obtain ⟨rfl, rfl⟩ := h4
            refine GoodV.pure hw ?_ hrun
            simp only [VR]
            refine ⟨bl, nn, len - l, k1, ?_, by omega, ?_⟩
            · rw [if_neg (by omega), add_none]
            · have : (len - l) * n = len * n - l * n := Nat.sub_mul _ _ _
              have : l * n ≤ len * n := Nat.mul_le_mul_right _ (by omega)
              omega
      · cases h4
    · cases h4
  | _ => cases h

theorem good_fieldAddr (hw : WR P g m w) {t n k : Nat} {fs : Array Go.Field} (ht : P.underlying t = some (.struct fs)) {f : Go.Field} (hf : fs[k]? = some f) (hn : sizeIn P f.type = some n) (h1 : 1 ≤ n) {x v : V} {a : Value} {ws : Ws} (hx : VR g.ro x g.rho a)
    (h : (match (generalizing := false) x with
      | .p l o => some (V.p l (o + f.offset), ([] : Ws))
      | .rp cs => some (.rp (cs.drop f.offset), [])
      | _ => none) = some (v, ws)) : GoodV P g m w slot v ws ((Go.Instr.fieldAt t a k).run P w) := by
  have hne : ¬ (n = 0) := by omega
  cases x with
  | p l o =>
    simp only [Option.some.injEq, Prod.mk.injEq] at h
    obtain ⟨rfl, rfl⟩ := h
    simp only [VR] at hx
    obtain ⟨b, nn, k1, rfl⟩ := hx
    refine GoodV.pure hw (v' := .pointer (some ⟨b, o + f.offset, none⟩)) (by simp only [VR]; exact ⟨b, nn, k1, rfl⟩) ?_
    simp [Go.Instr.fieldAt, Go.run_underlying ht, hf, Go.Instr.sureAddr, Go.fieldPlace, run_sizeOf hn, hne, add_none]
  | rp cs =>
    simp only [Option.some.injEq, Prod.mk.injEq] at h
    obtain ⟨rfl, rfl⟩ := h
    simp only [VR] at hx
    obtain ⟨b, o, arr, e, ff, rfl, k1, k2, k3⟩ := hx
    refine GoodV.pure hw (v' := .pointer (some ⟨b, o + f.offset, none⟩)) ?_ ?_
    · simp only [VR]
      refine ⟨b, _, arr, e, ff, rfl, k1, k2.part (by simp), ?_⟩
      have := k3.drop f.offset
      rwa [List.drop_drop] at this
    · simp [Go.Instr.fieldAt, Go.run_underlying ht, hf, Go.Instr.sureAddr, Go.fieldPlace, run_sizeOf hn, hne, add_none]
  | _ => cases h

theorem run_part {t n o : Nat} {ag : Bool} (hg : aggOf P t = some ag) (hn : sizeIn P t = some n) {cs : List V} {arr : Array Value} {ro : Ro} {h : Rho} {v : V} (hp : PR ro cs h arr.toList) (h1 : OneL arr.toList) (hv : getPart ag n cs o = some v) :
    ∃ v', (Go.part t arr o).run P w = .ok v' w ∧ VR ro v h v' := by
  obtain ⟨v', h2, h3⟩ := part_rel hp h1 hv
  refine ⟨v', ?_, h3⟩
  cases ag with
  | true =>
    simp only [if_true] at h2
    obtain ⟨h4, rfl⟩ := h2
    simp only [Go.part, Sem.run_bind, run_isAgg hg, Result.andThen_ok, if_true, run_sizeOf hn, Sem.run_pure]
    congr 2
    apply Array.ext'
    simp only [Array.toList_extract, List.extract_eq_take_drop]
    rw [show o + n - o = n by omega]
  | false =>
    simp only [Bool.false_eq_true, if_false] at h2
    simp [Go.part, run_isAgg hg, h2]

theorem good_field (hw : WR P g m w) {t n k : Nat} {ag : Bool} {fs : Array Go.Field} (ht : P.underlying t = some (.struct fs)) {f : Go.Field} (hf : fs[k]? = some f) (hg : aggOf P f.type = some ag) (hn : sizeIn P f.type = some n) {x v : V} {a : Value} {ws : Ws} (hx : VR g.ro x g.rho a)
    (h : (match (generalizing := false) x with
      | .ag cs => (getPart ag n cs f.offset).map fun v => (v, ([] : Ws))
      | _ => none) = some (v, ws)) : GoodV P g m w slot v ws ((Go.Instr.field t a k).run P w) := by
  cases x with
  | ag cs =>
    simp only [Option.map_eq_some_iff, Prod.mk.injEq] at h
    obtain ⟨u, h1, rfl, rfl⟩ := h
    simp only [VR] at hx
    obtain ⟨arr, rfl, h2, h3, h4⟩ := hx
    obtain ⟨v', h5, h6⟩ := run_part (P := P) (w := w) hg hn h4 h3 h1
    refine GoodV.pure hw h6 ?_
    simp [Go.Instr.field, Go.run_underlying ht, hf, Go.asAgg, h5]
  | _ => cases h

theorem good_ia (hw : WR P g m w) {t et n : Nat} (ht : P.underlying t = some (.slice et)) (hn : sizeIn P et = some n) {x y v : V} {a b : Value} {ws : Ws} (hx : VR g.ro x g.rho a) (hy : VR g.ro y g.rho b)
    (h : (match (generalizing := false) x, y with
      | .sl cs len, .i _ k => if 0 ≤ k ∧ k < len then some (V.rp ((cs.drop (k.toNat * n)).take n), ([] : Ws)) else none
      | .ms l off len esz', .i _ k => if 0 ≤ k ∧ k < len ∧ esz' = n then some (.p l (off + k.toNat * n), []) else none
      | _, _ => none) = some (v, ws)) : GoodV P g m w slot v ws ((Go.Instr.indexAt t a b).run P w) := by
  cases x with
  | sl cs len =>
    cases y with
    | i kk k =>
      simp only at h
      split at h
      · rename_i hc
        simp only [Option.some.injEq, Prod.mk.injEq] at h
        obtain ⟨rfl, rfl⟩ := h
        simp only [VR] at hx hy
        subst hy
        obtain ⟨base, cap, rfl, k1, k2⟩ := hx
        rcases k2 with ⟨_, h0⟩ | ⟨bl, o, arr, e, f, rfl, k3, k4, k5⟩
        · omega
        · refine GoodV.pure hw (v' := .pointer (some ⟨bl, o + k.toNat * n, none⟩)) ?_ ?_
          · simp only [VR]
            refine ⟨bl, _, arr, e, f, rfl, k3, k4.part (by simp [List.length_take, List.length_drop]; omega), ?_⟩
            have := (k5.drop (k.toNat * n)).takeL n
            rwa [List.drop_drop] at this
          · simp [Go.Instr.indexAt, Go.asIntOf, Go.run_underlying ht, run_sizeOf hn, hc, add_none]
      · cases h
    | _ => cases h
  | ms l off len esz' =>
    cases y with
    | i kk k =>
      simp only at h
      split at h
      · rename_i hc
        obtain ⟨c1, c2, rfl⟩ := hc
        simp only [Option.some.injEq, Prod.mk.injEq] at h
        obtain ⟨rfl, rfl⟩ := h
        simp only [VR] at hx hy
        subst hy
        obtain ⟨bl, nn, cap, k1, rfl, k2, k3⟩ := hx
        refine GoodV.pure hw (v' := .pointer (some ⟨bl, off + k.toNat * esz', none⟩)) (by simp only [VR]; exact ⟨bl, nn, k1, rfl⟩) ?_
        simp [Go.Instr.indexAt, Go.asIntOf, Go.run_underlying ht, run_sizeOf hn, c1, c2, add_none]
      · cases h
    | _ => cases h
  | _ => cases y <;> cases h

theorem good_iz (hw : WR P g m w) {t et n len : Nat} (ht : P.underlying t = some (.array len et)) (hn : sizeIn P et = some n) {x y v : V} {a b : Value} {ws : Ws} (hx : VR g.ro x g.rho a) (hy : VR g.ro y g.rho b)
    (h : (match (generalizing := false) x, y with
      | .p l off, .i _ k => if 0 ≤ k ∧ k < len then some (V.p l (off + k.toNat * n), ([] : Ws)) else none
      | .rp cs, .i _ k => if 0 ≤ k ∧ k < len then some (.rp (cs.drop (k.toNat * n)), []) else none
      | _, _ => none) = some (v, ws)) : GoodV P g m w slot v ws ((Go.Instr.indexAt t a b).run P w) := by
  cases x with
  | p l off =>
    cases y with
    | i kk k =>
      simp only at h
      split at h
      · rename_i hc
        simp only [Option.some.injEq, Prod.mk.injEq] at h
        obtain ⟨rfl, rfl⟩ := h
        simp only [VR] at hx hy
        subst hy
        obtain ⟨bl, nn, k1, rfl⟩ := hx
        refine GoodV.pure hw (v' := .pointer (some ⟨bl, off + k.toNat * n, none⟩)) (by simp only [VR]; exact ⟨bl, nn, k1, rfl⟩) ?_
        simp [Go.Instr.indexAt, Go.asIntOf, Go.run_underlying ht, run_sizeOf hn, hc, add_none, Go.Instr.sureAddr]
      · cases h
    | _ => cases h
  | rp cs =>
    cases y with
    | i kk k =>
      simp only at h
      split at h
      · rename_i hc
        simp only [Option.some.injEq, Prod.mk.injEq] at h
        obtain ⟨rfl, rfl⟩ := h
        simp only [VR] at hx hy
        subst hy
        obtain ⟨bl, o, arr, e, f, rfl, k3, k4, k5⟩ := hx
        refine GoodV.pure hw (v' := .pointer (some ⟨bl, o + k.toNat * n, none⟩)) ?_ ?_
        · simp only [VR]
          refine ⟨bl, _, arr, e, f, rfl, k3, k4.part (by simp [List.length_take, List.length_drop] <;> omega), ?_⟩
          have := k5.drop (k.toNat * n)
          rwa [List.drop_drop] at this
        · simp [Go.Instr.indexAt, Go.asIntOf, Go.run_underlying ht, run_sizeOf hn, hc, add_none, Go.Instr.sureAddr]
      · cases h
    | _ => cases h
  | _ => cases y <;> cases h

theorem good_xa (hw : WR P g m w) {t et n len : Nat} {ag : Bool} (ht : P.underlying t = some (.array len et)) (hg : aggOf P et = some ag) (hn : sizeIn P et = some n) {x y v : V} {a b : Value} {ws : Ws} (hx : VR g.ro x g.rho a) (hy : VR g.ro y g.rho b)
    (h : (match (generalizing := false) x, y with
      | .ag cs, .i _ k => if 0 ≤ k ∧ k < len then (getPart ag n cs (k.toNat * n)).map fun v => (v, ([] : Ws)) else none
      | _, _ => none) = some (v, ws)) : GoodV P g m w slot v ws ((Go.Instr.index t a b).run P w) := by
  cases x with
  | ag cs =>
    cases y with
    | i kk k =>
      simp only at h
      split at h
      · rename_i hc
        simp only [Option.map_eq_some_iff, Prod.mk.injEq] at h
        obtain ⟨u, h1, rfl, rfl⟩ := h
        simp only [VR] at hx hy
        subst hy
        obtain ⟨arr, rfl, h2, h3, h4⟩ := hx
        obtain ⟨v', h5, h6⟩ := run_part (P := P) (w := w) hg hn h4 h3 h1
        refine GoodV.pure hw h6 ?_
        simp [Go.Instr.index, Go.asIntOf, Go.run_underlying ht, run_sizeOf hn, hc, h5]
      · cases h
    | _ => cases h
  | _ => cases y <;> cases h

theorem good_xs (hw : WR P g m w) {t : Nat} (ht : P.underlying t = some .string) {x y v : V} {a b : Value} {ws : Ws} (hx : VR g.ro x g.rho a) (hy : VR g.ro y g.rho b)
    (h : (match (generalizing := false) x, y with
      | .s a, .i _ n => if 0 ≤ n then (a[n.toNat]?).map fun c => (V.i .u8 c.toNat, ([] : Ws)) else none
      | _, _ => none) = some (v, ws)) : GoodV P g m w slot v ws ((Go.Instr.index t a b).run P w) := by
  cases x with
  | s s =>
    cases y with
    | i kk k =>
      simp only at h
      split at h
      · rename_i hc
        simp only [Option.map_eq_some_iff, Prod.mk.injEq] at h
        obtain ⟨u, h1, rfl, rfl⟩ := h
        simp only [VR] at hx hy
        subst hx; subst hy
        refine GoodV.pure hw (v' := .int .u8 u.toNat) (by simp [VR]) ?_
        simp [Go.Instr.index, Go.asIntOf, Go.run_underlying ht, hc, h1]
      · cases h
    | _ => cases h
  | _ => cases y <;> cases h

/-- So many noughts put behind no slice. -/
theorem good_appendN (hw : WR P g m w) (hm : g.rho slot = none) {t u et : TypeId} {inf : Go.TypeInfo} {kk : IntKind} (ht : P.underlying t = some (.slice et)) (hu : P.underlying u = some (.int kk))
    (hi : P.info? et = some inf) (h1 : 1 ≤ inf.size) (hby : inf.bytes ≤ LIM) {z : List V} (hz : zeroL P et = some z) (hzl : z.length = inf.size) {x y v : V} {ws : Ws} {a b : Value} (hx : VR g.ro x g.rho a) (hy : VR g.ro y g.rho b) (ty : TypeId)
    (h : (match (generalizing := false) x, y with
      | .ns, .i .i64 n => if 0 ≤ n ∧ n ≤ BIG then (if n = 0 then some (V.ns, ([] : Ws)) else some (.ms slot 0 n.toNat inf.size, [(slot, some (PObj.cells (zeros z n.toNat) false))])) else none
      | _, _ => none) = some (v, ws)) : GoodV P g m w slot v ws ((Go.Builtin.append_ #[t, u] ty #[a, b]).run P w) := by
  obtain ⟨n, rfl, rfl, hh⟩ : ∃ n, x = .ns ∧ y = .i .i64 n ∧ (if 0 ≤ n ∧ n ≤ BIG then (if n = 0 then some (V.ns, ([] : Ws)) else some (.ms slot 0 n.toNat inf.size, [(slot, some (PObj.cells (zeros z n.toNat) false))])) else none) = some (v, ws) := by
    split at h
    · exact ⟨_, rfl, rfl, h⟩
    · cases h
  clear h
  by_cases hc : 0 ≤ n ∧ n ≤ BIG
  · rw [if_pos hc] at hh
    obtain ⟨c1, c3⟩ := hc
    simp only [VR] at hx hy
    obtain ⟨base, rfl⟩ := hx
    subst hy
    obtain ⟨zv, z1, z2, z3, z4⟩ := zeroL_ok hz g.ro g.rho
    have hzv : inf.zero = some zv := by simpa [zeroIn, hi] using z1
    have hsize : (Go.sizeOf et).run P w = .ok inf.size w := run_sizeOf (by simp [sizeIn, hi])
    have hwrap : IntKind.i64.wrap n = n := Go.IntWalk.i64_in n (by unfold BIG at c3; omega)
    obtain ⟨k, rfl⟩ := Int.eq_ofNat_of_zero_le c1
    have hk : k ≤ BIG := by omega
    have hbig : ¬ (281474976710656 < (k : Int) * (inf.bytes : Int)) := by
      have : k * inf.bytes ≤ BIG * LIM := Nat.mul_le_mul hk hby
      unfold LIM BIG at this
      have h2 : ((k * inf.bytes : Nat) : Int) ≤ ((2147483648 * 4096 : Nat) : Int) := Int.ofNat_le.2 this
      simp only [Int.natCast_mul] at h2
      omega
    split at hh
    · rename_i h0
      have h0 : k = 0 := by omega
      subst h0
      simp only [Option.some.injEq, Prod.mk.injEq] at hh
      obtain ⟨rfl, rfl⟩ := hh
      refine GoodV.pure hw (v' := .slice base 0 0) (by simp [VR]) ?_
      have hw0 : IntKind.i64.wrap 0 = 0 := by decide
      cases base <;> simp [Go.Builtin.append_, Go.run_underlying ht, Go.run_underlying hu, Go.asInt, Go.asIntOf, Go.typeInfo, hi, hw0, hsize, Go.storeCells]
    · rename_i h0
      simp only [Option.some.injEq, Prod.mk.injEq] at hh
      obtain ⟨rfl, rfl⟩ := hh
      simp only [Int.toNat_natCast]
      have hk0 : k ≠ 0 := by omega
      have h63 : ¬ ((9223372036854775807 : Int) < (k : Int)) := by unfold BIG at hk; omega
      have hneg : ¬ ((k : Int) < 0) := by omega
      have hcapb : Go.Builtin.nextslicecap (0 + k) 0 * inf.bytes ≤ 2 * BIG * LIM := by
        refine Nat.mul_le_mul ?_ hby
        exact Nat.le_trans (Go.nextslicecap_le (by omega)) (Nat.mul_le_mul_left _ (by omega))
      have h48 : ¬ (281474976710656 < Go.Builtin.nextslicecap k 0 * inf.bytes) := by unfold BIG LIM at hcapb; simp only [Nat.zero_add] at hcapb; omega
      let w1 : World := { w with drawn := w.drawn + 1 }
      let nc := Go.grownCap w k 0 et
      have hnc : k ≤ nc := by
        show k ≤ Go.Question.cut _ _
        simp [Go.Question.cut]
      obtain ⟨q1, q2⟩ := zeroCells_ok zv.cells (nc - k) z4
      obtain ⟨r1, r2⟩ := zeroCells_ok zv.cells k z4
      obtain ⟨s1, s2, s3⟩ := zeros_rel z2 z3 z4 k (k * zv.cells.size) (by rw [z3])
      have s1' : PR g.ro (zeros z k) g.rho (Go.Builtin.zeroCells zv.cells k).toList := s1
      have hold : OneL (Go.Builtin.zeroCells zv.cells k ++ Go.Builtin.zeroCells zv.cells (nc - k)).toList := by
        intro p hp
        simp only [Array.toList_append, List.mem_append] at hp
        rcases hp with hp | hp
        · exact r2 p hp
        · exact q2 p hp
      have hrel : PR g.ro (zeros z k) g.rho (Go.Builtin.zeroCells zv.cells k ++ Go.Builtin.zeroCells zv.cells (nc - k)).toList := by
        have := s1'.append (ds := []) (k := (Go.Builtin.zeroCells zv.cells (nc - k)).toList) (by simp [zeros_len, r1, z3]) (by simp [PR])
        simpa using this
      have hnew := newCells hw hm hrel hold et
      have hpos : ¬ (k * inf.size = 0) := by
        intro hh
        rcases Nat.mul_eq_zero.1 hh with h | h <;> omega
      refine ⟨.slice (some ⟨w.heap.size, 0, none⟩) k nc, { w1 with heap := w.heap.push (.cells (Go.Builtin.zeroCells zv.cells k ++ Go.Builtin.zeroCells zv.cells (nc - k)) et) }, g.rho.set slot (w.heap.size, _), ?_, Rho.set_ext hm, fun l hl => rho_set_ne _ _ hl, ?_, hnew.heap rfl, ⟨rfl, rfl, rfl, by simp⟩⟩
      · have e1 : w.drew = w1 := rfl
        cases base
        all_goals
          simp [Go.Builtin.append_, Go.run_underlying ht, Go.run_underlying hu, Go.asInt, Go.asIntOf, Go.typeInfo, hi, hwrap, hsize, Go.newRow, hbig, Go.zeroValue, hzv, hpos, hk0, h63, hneg, h48, Go.Question.forced, e1, Go.Builtin.firstCells, Go.loadCells, Go.loadCellsFrom]
        all_goals exact ⟨rfl, rfl⟩
      · simp only [VR]
        refine ⟨_, _, nc, rho_set_same _ _ _, rfl, hnc, ?_⟩
        simp only [Array.size_append, q1, r1, Nat.zero_add]
        rw [← z3, hzl, ← Nat.add_mul]
        exact Nat.mul_le_mul_right _ (by omega)
  · rw [if_neg hc] at hh
    cases hh

end
end Pi


/- The machine's operations against the pure ones: numbers, texts, and all of them together. -/
namespace Pi
open Go (IntKind TypeId FuncId Fn BinOp UnOp LoopState Value Addr World Program undef Operand Sem Result)

section
variable {P : Program} {g : G} {m : Sto} {w : World} {slot : Nat}

theorem good_ta (hw : WR P g m w) {t xt : TypeId} (ht : ∃ d, P.underlying t = some d ∧ (∀ ms, d ≠ .interface ms)) {z : V} (hz : zeroV P t = some z) {x v : V} {a : Value} {ws : Ws} {ok : Bool} (hx : VR g.ro x g.rho a)
    (h : (match (generalizing := false) x with
      | .fc t' v => if t' = t then some (if ok then V.tu [v, .b true] else v, ([] : Ws)) else if ok then some (.tu [z, .b false], []) else none
      | .ni => if ok then some (.tu [z, .b false], []) else none
      | _ => none) = some (v, ws)) : GoodV P g m w slot v ws ((Go.Instr.typeAssert a xt t ok).run P w) := by
  obtain ⟨d, hu, hd⟩ := ht
  obtain ⟨zv, z1, z2⟩ := zeroV_ok hz g.ro g.rho
  cases x with
  | fc t' y =>
    simp only at h
    simp only [VR] at hx
    obtain ⟨y', rfl, k1⟩ := hx
    by_cases e : t' = t
    · subst e
      rw [if_pos rfl] at h
      simp only [Option.some.injEq, Prod.mk.injEq] at h
      obtain ⟨rfl, rfl⟩ := h
      refine GoodV.pure hw (v' := if ok then .tuple #[y', .bool true] else y') ?_ ?_
      · cases ok with
        | true => simp only [if_true, VR]; exact ⟨_, rfl, rfl, ⟨_, _, rfl, k1, ⟨_, _, rfl, rfl, trivial⟩⟩⟩
        | false => exact k1
      · cases d <;> first | exact absurd rfl (hd _) | simp [Go.Instr.typeAssert, Go.run_underlying hu]
    · rw [if_neg e] at h
      cases ok with
      | false => simp at h
      | true =>
        simp only [if_true, Option.some.injEq, Prod.mk.injEq] at h
        obtain ⟨rfl, rfl⟩ := h
        refine GoodV.pure hw (v' := .tuple #[zv, .bool false]) ?_ ?_
        · simp only [VR]; exact ⟨_, rfl, rfl, ⟨_, _, rfl, z2, ⟨_, _, rfl, rfl, trivial⟩⟩⟩
        · cases d <;> first | exact absurd rfl (hd _) | simp [Go.Instr.typeAssert, Go.run_underlying hu, e, run_zero z1]
  | ni =>
    simp only at h
    simp only [VR] at hx
    subst hx
    cases ok with
    | false => simp at h
    | true =>
      simp only [if_true, Option.some.injEq, Prod.mk.injEq] at h
      obtain ⟨rfl, rfl⟩ := h
      refine GoodV.pure hw (v' := .tuple #[zv, .bool false]) ?_ ?_
      · simp only [VR]; exact ⟨_, rfl, rfl, ⟨_, _, rfl, z2, ⟨_, _, rfl, rfl, trivial⟩⟩⟩
      · cases d <;> first | exact absurd rfl (hd _) | simp [Go.Instr.typeAssert, Go.run_underlying hu, run_zero z1]
  | _ => cases h

theorem good_ex (hw : WR P g m w) {x v : V} {a : Value} {ws : Ws} {j : Nat} (hx : VR g.ro x g.rho a)
    (h : (match (generalizing := false) x with
      | .tu vs => (vs[j]?).map fun v => (v, ([] : Ws))
      | _ => none) = some (v, ws)) : GoodV P g m w slot v ws ((Go.Instr.extract a j).run P w) := by
  cases x with
  | tu vs =>
    simp only [Option.map_eq_some_iff, Prod.mk.injEq] at h
    obtain ⟨u, h1, rfl, rfl⟩ := h
    simp only [VR] at hx
    obtain ⟨arr, rfl, h2, h3⟩ := hx
    obtain ⟨v', h4, h5⟩ := h3.get h1
    refine GoodV.pure hw h5 ?_
    have : arr[j]? = some v' := by simpa using h4
    simp [Go.Instr.extract, this]
  | _ => cases h

theorem good_cap (hw : WR P g m w) {t : TypeId} {us : List TypeId} {e : TypeId} (hu : P.underlying t = some (.slice e))
    {x : V} {a : Value} (hx : VR g.ro x g.rho a) (ty : TypeId) {n : Nat} (h : lenK m .c x = some n) :
    GoodV P g m w slot (.i .i64 n) [] ((Go.Builtin.cap_ (t :: us).toArray ty #[a]).run P w) := by
  cases x <;> simp only [lenK] at h <;> cases h
  simp only [VR] at hx
  obtain ⟨b, rfl⟩ := hx
  refine GoodV.pure hw (v' := .int .i64 0) (by simp [VR]) ?_
  simp [Go.Builtin.cap_, Go.run_underlying hu, Go.goInt]
theorem good_len (hw : WR P g m w) {t : TypeId} {us : List TypeId} {k : LK} (hk : (k = .s ∧ P.underlying t = some .string) ∨ (k = .l ∧ ∃ e, P.underlying t = some (.slice e)) ∨ (k = .m ∧ ∃ q e, P.underlying t = some (.map q e)))
    {x : V} {a : Value} (hx : VR g.ro x g.rho a) (ty : TypeId) {n : Nat} (h : lenK m k x = some n) :
    GoodV P g m w slot (.i .i64 n) [] ((Go.Builtin.len_ (t :: us).toArray ty #[a]).run P w) := by
  rcases hk with ⟨rfl, hu⟩ | ⟨rfl, e, hu⟩ | ⟨rfl, q, e, hu⟩
  · cases x <;> simp only [lenK] at h <;> cases h
    rename_i s
    simp only [VR] at hx
    subst hx
    refine GoodV.pure hw (v' := .int .i64 s.size) (by simp [VR]) ?_
    simp [Go.Builtin.len_, Go.run_underlying hu, Go.goInt]
  · cases x <;> simp only [lenK, lenSl] at h <;> cases h
    · simp only [VR] at hx
      obtain ⟨b, rfl⟩ := hx
      refine GoodV.pure hw (v' := .int .i64 0) (by simp [VR]) ?_
      simp [Go.Builtin.len_, Go.run_underlying hu, Go.goInt]
    · simp only [VR] at hx
      obtain ⟨b, cap, rfl, _⟩ := hx
      refine GoodV.pure hw (v' := .int .i64 n) (by simp [VR]) ?_
      simp [Go.Builtin.len_, Go.run_underlying hu, Go.goInt]
    · simp only [VR] at hx
      obtain ⟨b, nn, cap, _, rfl, _⟩ := hx
      refine GoodV.pure hw (v' := .int .i64 n) (by simp [VR]) ?_
      simp [Go.Builtin.len_, Go.run_underlying hu, Go.goInt]
  · cases x with
    | nm =>
      simp only [lenK, Option.some.injEq] at h
      subst h
      simp only [VR] at hx
      subst hx
      refine GoodV.pure hw (v' := .int .i64 0) (by simp [VR]) ?_
      simp [Go.Builtin.len_, Go.run_underlying hu, Go.goInt]
    | rm ks vs =>
      simp only [lenK, Option.some.injEq] at h
      subst h
      simp only [VR] at hx
      rcases hx with ⟨rfl, rfl, rfl⟩ | ⟨b, es, ck, rfl, k1, k2, k3, _, _⟩ | ⟨b, es, ck, rfl, k1, k2⟩
      · refine GoodV.pure hw (v' := .int .i64 0) (by simp [VR]) ?_
        simp [Go.Builtin.len_, Go.run_underlying hu, Go.goInt]
      · have hb := hw.keep _ _ (hw.ro _ _ k1)
        refine GoodV.pure hw (v' := .int .i64 es.size) (by simp [VR, k2]) ?_
        simp [Go.Builtin.len_, Go.run_underlying hu, Go.goInt, run_getObj (P := P) hb]
      · have hb := hw.keep _ _ (hw.ro _ _ k1)
        refine GoodV.pure hw (v' := .int .i64 es.size) (by simp [VR, k2.size]) ?_
        simp [Go.Builtin.len_, Go.run_underlying hu, Go.goInt, run_getObj (P := P) hb]
    | mp l =>
      simp only [lenK] at h
      split at h
      · rename_i ks vs r hm
        simp only [Option.some.injEq] at h
        subst h
        simp only [VR] at hx
        obtain ⟨b, n', h1, rfl⟩ := hx
        obtain ⟨b', n'', h2, es, ck, h3, h4, h5, h6, h7, h8⟩ := hw.obj l _ hm
        rw [h1] at h2
        cases h2
        refine GoodV.pure hw (v' := .int .i64 es.size) (by simp [VR, h4]) ?_
        simp [Go.Builtin.len_, Go.run_underlying hu, Go.goInt, run_getObj (P := P) h3]
      · cases h
    | _ => simp [lenK] at h

theorem guard_int (op : BinOp) (t : TypeId) (ox oy : Operand) (k : IntKind) (n : Int) (b : Value) : (Go.eqGuard op t ox oy (.int k n) b).run P w = .ok () w := by
  cases op <;> simp [Go.eqGuard]
theorem guard_str (op : BinOp) (t : TypeId) (ox oy : Operand) (s : ByteArray) (b : Value) : (Go.eqGuard op t ox oy (.string s) b).run P w = .ok () w := by
  cases op <;> simp [Go.eqGuard]
theorem guard_bool (op : BinOp) (t : TypeId) (ox oy : Operand) (s : Bool) (b : Value) : (Go.eqGuard op t ox oy (.bool s) b).run P w = .ok () w := by
  cases op <;> simp [Go.eqGuard]
theorem guard_agg (op : BinOp) (t : TypeId) (ox oy : Operand) (hg : P.eqGuardType P.depth t = false) (s : Array Value) (b : Value) : (Go.eqGuard op t ox oy (.agg s) b).run P w = .ok () w := by
  cases op <;> cases b <;> simp [Go.eqGuard, hg]

def valS : V → Value
  | .b x => .bool x
  | .i k n => .int k n
  | .s x => .string x
  | _ => undef

theorem good_bin (hw : WR P g m w) {op : BinOp} {t : TypeId} {x y v : V} {a b : Value} (hx : VR g.ro x g.rho a) (hy : VR g.ro y g.rho b) (ox oy : Operand)
    (h : bin op x y = some v) : GoodV P g m w slot v [] ((do Go.eqGuard op t ox oy a b; Go.binOp op t a b : Sem Value).run P w) := by
  cases x with
  | i k n =>
    cases y with
    | i k' n' =>
      simp only [VR] at hx hy
      subst hx; subst hy
      have hg := guard_int (P := P) (w := w) op t ox oy k n (.int k' n')
      suffices hs : (Go.binOp op t (.int k n) (.int k' n')).run P w = .ok (valS v) w ∧ VR g.ro v g.rho (valS v) by
        obtain ⟨h1, h2⟩ := hs
        exact GoodV.pure hw h2 (by simp [hg, h1])
      cases op <;> simp only [bin] at h
      case shl =>
        split at h
        · cases h
        · cases h
          exact ⟨by simp [Go.binOp, Go.Op.shift, valS, *], by simp [VR, valS]⟩
      case shr =>
        split at h
        · cases h
        · cases h
          exact ⟨by simp [Go.binOp, Go.Op.shift, valS, *], by simp [VR, valS]⟩
      all_goals
        split at h
        · rename_i e
          subst e
          simp only [binI] at h
          first
          | (cases h; exact ⟨by simp [Go.binOp, Go.Op.intArith, Go.Op.intBits, Go.Op.intCmp, valS], by simp [VR, valS]⟩)
          | (split at h
             · cases h
             · rename_i hb
               cases h
               exact ⟨by simp [Go.binOp, Go.Op.intDiv, hb, valS], by simp [VR, valS]⟩)
        · cases h
    | _ => simp [bin] at h
  | s s =>
    cases y with
    | s s' =>
      simp only [VR] at hx hy
      subst hx; subst hy
      have hg := guard_str (P := P) (w := w) op t ox oy s (.string s')
      suffices hs : (Go.binOp op t (.string s) (.string s')).run P w = .ok (valS v) w ∧ VR g.ro v g.rho (valS v) by
        obtain ⟨h1, h2⟩ := hs
        exact GoodV.pure hw h2 (by simp [hg, h1])
      cases op <;> simp only [bin] at h
      case add =>
        split at h
        · rename_i hb
          cases h
          have hmax : ¬ (((s.size + s'.size : Nat) : Int) > IntKind.i64.max) := by
            unfold BIG at hb
            have : IntKind.i64.max = 9223372036854775807 := by decide
            rw [this]
            omega
          refine ⟨?_, by simp [VR, valS]⟩
          simp only [Go.binOp, Go.Op.stringOp]
          rw [if_neg hmax]
          rfl
        · cases h
      case eql => cases h; exact ⟨by simp only [Go.binOp, Go.Op.stringOp]; rfl, by simp [VR, valS]⟩
      case neq => cases h; exact ⟨by simp only [Go.binOp, Go.Op.stringOp]; rfl, by simp [VR, valS]⟩
      all_goals cases h
    | _ => simp [bin] at h
  | _ => simp [bin] at h

theorem good_eq (hw : WR P g m w) {neg : Bool} {op : BinOp} (hop : op = if neg then .neq else .eql) {t : TypeId} {q : Q} (hq : qOf P t = some q) (hgt : P.eqGuardType P.depth t = false) (hi : ∀ k, P.underlying t ≠ some (.int k)) (hs : P.underlying t ≠ some .string)
    {x y v : V} {a b : Value} {ws : Ws} (hx : VR g.ro x g.rho a) (hy : VR g.ro y g.rho b) (ox oy : Operand)
    (h : (eqQ q x y).map (fun c => (V.b (if neg then !c else c), ([] : Ws))) = some (v, ws)) : GoodV P g m w slot v ws ((do Go.eqGuard op t ox oy a b; Go.binOp op t a b : Sem Value).run P w) := by
  simp only [Option.map_eq_some_iff, Prod.mk.injEq] at h
  obtain ⟨c, h1, rfl, rfl⟩ := h
  have heq := equal_sound (P := P) (w := w) h1 hx hy hq
  have shape : (∃ p r, a = .bool p ∧ b = .bool r) ∨ (∃ p r, a = .agg p ∧ b = .agg r) := by
    cases q with
    | one k =>
      have hk := qOf_one hq
      unfold kindT at hk
      split at hk
      · rename_i kk hu; exact absurd hu (hi kk)
      · cases hk
        cases x <;> cases y <;> simp [eqQ, eqK] at h1
        simp only [VR] at hx hy
        exact .inl ⟨_, _, hx, hy⟩
      · rename_i hu; exact absurd hu hs
      · cases hk
    | many ks =>
      cases x <;> cases y <;> simp [eqQ] at h1
      simp only [VR] at hx hy
      obtain ⟨p, rfl, _⟩ := hx
      obtain ⟨r, rfl, _⟩ := hy
      exact .inr ⟨_, _, rfl, rfl⟩
  refine GoodV.pure hw (v' := .bool (if neg then !c else c)) (by simp [VR]) ?_
  rcases shape with ⟨p, r, rfl, rfl⟩ | ⟨p, r, rfl, rfl⟩
  · cases neg <;> simp only [hop, if_true, Bool.false_eq_true, if_false] <;> simp [guard_bool, Go.binOp, heq]
  · cases neg <;> simp only [hop, if_true, Bool.false_eq_true, if_false] <;> simp [guard_agg _ _ _ _ hgt, Go.binOp, heq]

theorem good_un (hw : WR P g m w) {op : UnOp} {x v : V} {a : Value} (hx : VR g.ro x g.rho a) (h : una op x = some v) : GoodV P g m w slot v [] ((Go.Op.unary op a).run P w) := by
  unfold una at h
  split at h
  · rename_i b
    cases h
    simp only [VR] at hx
    subst hx
    exact GoodV.pure hw (v' := .bool (!b)) (by simp [VR]) (by simp [Go.Op.unary])
  · rename_i k n
    cases h
    simp only [VR] at hx
    subst hx
    exact GoodV.pure hw (v' := .int k (k.wrap (0 - n))) (by simp [VR]) (by simp [Go.Op.unary, Go.Op.intArith])
  · cases h

theorem fold_max : ∀ (xs : List V) (x v : V) (a : Value) (as : List Value), VR g.ro x g.rho a → PR g.ro xs g.rho as → xs.length = as.length → foldV max2 x xs = some v →
    ∃ v', (as.foldlM Go.Builtin.max2 a : Sem Value).run P w = .ok v' w ∧ VR g.ro v g.rho v'
  | [], x, v, a, as, hx, hp, hl, h => by
    cases as with
    | nil => cases h; exact ⟨a, by simp, hx⟩
    | cons b bs => simp at hl
  | y :: ys, x, v, a, as, hx, hp, hl, h => by
    cases as with
    | nil => simp at hl
    | cons b bs =>
      simp only [PR] at hp
      obtain ⟨_, _, e, hp1, hp2⟩ := hp
      cases e
      simp only [foldV, Option.bind_eq_some_iff] at h
      obtain ⟨z, h1, h2⟩ := h
      cases x <;> cases y <;> simp only [max2] at h1 <;> cases h1
      simp only [VR] at hx hp1
      subst hx; subst hp1
      obtain ⟨v', k1, k2⟩ := fold_max ys _ v _ bs (by simp only [VR]; rfl) hp2 (by simpa using hl) h2
      exact ⟨v', by simpa [Go.Builtin.max2] using k1, k2⟩

theorem fold_min : ∀ (xs : List V) (x v : V) (a : Value) (as : List Value), VR g.ro x g.rho a → PR g.ro xs g.rho as → xs.length = as.length → foldV min2 x xs = some v →
    ∃ v', (as.foldlM Go.Builtin.min2 a : Sem Value).run P w = .ok v' w ∧ VR g.ro v g.rho v'
  | [], x, v, a, as, hx, hp, hl, h => by
    cases as with
    | nil => cases h; exact ⟨a, by simp, hx⟩
    | cons b bs => simp at hl
  | y :: ys, x, v, a, as, hx, hp, hl, h => by
    cases as with
    | nil => simp at hl
    | cons b bs =>
      simp only [PR] at hp
      obtain ⟨_, _, e, hp1, hp2⟩ := hp
      cases e
      simp only [foldV, Option.bind_eq_some_iff] at h
      obtain ⟨z, h1, h2⟩ := h
      cases x <;> cases y <;> simp only [min2] at h1 <;> cases h1
      simp only [VR] at hx hp1
      subst hx; subst hp1
      obtain ⟨v', k1, k2⟩ := fold_min ys _ v _ bs (by simp only [VR]; rfl) hp2 (by simpa using hl) h2
      exact ⟨v', by simpa [Go.Builtin.min2] using k1, k2⟩

theorem bytesOf_ints : ∀ {cs : List V} {l : List UInt8} {ro : Ro} {h : Rho} {vs : List Value}, bytesOf cs = some l → PR ro cs h vs → cs.length = vs.length →
    ∃ ns : List Int, vs = ns.map (Value.int .u8) ∧ l = ns.map fun n => UInt8.ofNat n.toNat
  | [], l, ro, h, vs, hb, _, hl => by
    cases hb
    cases vs with
    | nil => exact ⟨[], rfl, rfl⟩
    | cons a b => simp at hl
  | c :: cs, l, ro, h, vs, hb, hp, hl => by
    obtain ⟨n, rfl⟩ : ∃ n, c = .i .u8 n := by
      clear hp
      unfold bytesOf at hb
      split at hb
      · rename_i e; cases e
      · rename_i e; cases e; exact ⟨_, rfl⟩
      · cases hb
    simp only [bytesOf, Option.map_eq_some_iff] at hb
    obtain ⟨l', h1, rfl⟩ := hb
    simp only [PR] at hp
    obtain ⟨v, r, rfl, h2, h3⟩ := hp
    simp only [VR] at h2
    subst h2
    obtain ⟨ns, rfl, rfl⟩ := bytesOf_ints h1 h3 (by simpa using hl)
    exact ⟨n :: ns, rfl, rfl⟩

theorem pushes (ns : List Int) : ∀ (s : ByteArray), ns.foldl (fun r n => r.push (UInt8.ofNat n.toNat)) s = ⟨s.data ++ (ns.map fun n => UInt8.ofNat n.toNat).toArray⟩ := by
  induction ns with
  | nil => intro s; simp
  | cons n ns ih =>
    intro s
    rw [List.foldl_cons, ih]
    congr 1
    apply Array.ext'
    simp [ByteArray.push]

theorem good_cbs (hw : WR P g m w) {s t et : TypeId} (hs : P.underlying s = some (.slice et)) (ht : P.underlying t = some .string) (he : P.underlying et = some (.int .u8)) {x v : V} {a : Value} {ws : Ws} (hx : VR g.ro x g.rho a)
    (h : ((slCells m 1 x).bind bytesOf).map (fun l => (V.s ⟨l.toArray⟩, ([] : Ws))) = some (v, ws)) : GoodV P g m w slot v ws ((Go.convert s t a).run P w) := by
  simp only [Option.map_eq_some_iff, Option.bind_eq_some_iff, Prod.mk.injEq] at h
  obtain ⟨l, ⟨cs, h1, h2⟩, rfl, rfl⟩ := h
  have key : ∀ {b o len cap : Nat} {arr : Array Value} {e : TypeId} {f : Nat × Nat}, w.heap[b]? = some (.cells arr e f) → PR g.ro cs g.rho (arr.toList.drop o) → cs.length = len → a = .slice (some ⟨b, o, none⟩) len cap →
      GoodV P g m w slot (.s ⟨l.toArray⟩) [] ((Go.convert s t a).run P w) := by
    intro b o len cap arr e f hb hp hl ha
    subst ha
    have hlen := hp.len
    have hp' := hp.take cs.length
    rw [List.take_length] at hp'
    obtain ⟨ns, e1, e2⟩ := bytesOf_ints h2 hp' (by rw [List.length_take]; omega)
    refine GoodV.pure hw (v' := .string ⟨l.toArray⟩) (by simp [VR]) ?_
    rw [Go.run_convert_bytes_string w s t et _ _ _ hs he ht]
    have hload : (Go.loadCells ⟨b, o, none⟩ len).run P w = .ok (ns.map (Value.int .u8)).toArray w := by
      have := Go.run_loadCells_list (P := P) w ⟨b, o, none⟩ (ns.map (Value.int .u8)) (fun j v hj => by
        rw [add_none, cell_of hb]
        rw [← e1, List.getElem?_take] at hj
        split at hj
        · rw [List.getElem?_drop] at hj
          simpa using hj
        · cases hj)
      have hh : (ns.map (Value.int .u8)).length = len := by rw [← e1, List.length_take]; omega
      rwa [hh] at this
    rw [Go.run_bytesToString w _ _ _ ns hload, pushes, e2]
    congr 3
    apply Array.ext'
    simp [ByteArray.empty, ByteArray.emptyWithCapacity]
    rfl
  cases x with
  | ns =>
    simp only [slCells, Option.some.injEq] at h1
    subst h1
    cases h2
    simp only [VR] at hx
    obtain ⟨base, rfl⟩ := hx
    refine GoodV.pure hw (v' := .string ⟨#[]⟩) (by simp [VR]) ?_
    rw [Go.run_convert_bytes_string w s t et _ _ _ hs he ht]
    cases base with
    | none => rfl
    | some b =>
      rw [Go.run_bytesToString w b 0 0 [] (by simp [Go.loadCells, Go.loadCellsFrom])]
      rfl
  | sl cs' len =>
    simp only [slCells] at h1
    split at h1
    · rename_i hl
      cases h1
      simp only [VR] at hx
      obtain ⟨base, cap, rfl, k1, k2⟩ := hx
      rcases k2 with ⟨rfl, rfl⟩ | ⟨b, o, arr, e, f, rfl, k3, k4, k5⟩
      · cases h2
        refine GoodV.pure hw (v' := .string ⟨#[]⟩) (by simp [VR]) ?_
        rw [Go.run_convert_bytes_string w s t et _ _ _ hs he ht]
        cases base with
        | none => rfl
        | some b =>
          rw [Go.run_bytesToString w b 0 cap [] (by simp [Go.loadCells, Go.loadCellsFrom])]
          rfl
      · exact key (hw.keep _ _ (hw.ro _ _ k3)) (PR.mono (RoE.refl _) _ (fun _ _ e => by cases e) k5) (by omega) rfl
    · cases h1
  | ms l' off len esz' =>
    simp only [slCells] at h1
    split at h1
    · rename_i cs' r hm
      split at h1
      · rename_i hc
        obtain ⟨rfl, hc⟩ := hc
        cases h1
        simp only [VR] at hx
        obtain ⟨b, n, cap, h3, rfl, h4, h5⟩ := hx
        obtain ⟨b', n', h3', arr, e, f, h6, h7, h8, h9, h10⟩ := hw.obj l' _ hm
        rw [h3] at h3'
        cases h3'
        exact key h6 ((h9.drop off).takeL _) (by rw [List.length_take, List.length_drop]; omega) rfl
      · cases h1
    · rename_i cs' hm
      split at h1
      · rename_i hc
        obtain ⟨rfl, hc⟩ := hc
        cases h1
        simp only [VR] at hx
        obtain ⟨b, n, cap, h3, rfl, h4, h5⟩ := hx
        obtain ⟨b', n', h3', arr, e, f, h6, h7, h8, h9, h10⟩ := hw.obj l' _ hm
        rw [h3] at h3'
        cases h3'
        exact key h6 ((h9.drop off).takeL _) (by rw [List.length_take, List.length_drop]; omega) rfl
      · cases h1
    · cases h1
  | _ => simp [slCells] at h1

theorem good_csb (hw : WR P g m w) (hm : g.rho slot = none) {s t et : TypeId} (hs : P.underlying s = some .string) (ht : P.underlying t = some (.slice et)) (he : P.underlying et = some (.int .u8)) {x v : V} {a : Value} {ws : Ws} (hx : VR g.ro x g.rho a)
    (h : (match (generalizing := false) x with
      | .s a => if a.size ≤ BIG then some (V.ms slot 0 a.size 1, [(slot, some (PObj.cells (ofBytes a.data.toList) false))]) else none
      | _ => none) = some (v, ws)) : GoodV P g m w slot v ws ((Go.convert s t a).run P w) := by
  cases x with
  | s b =>
    simp only at h
    split at h
    · rename_i hb
      simp only [Option.some.injEq, Prod.mk.injEq] at h
      obtain ⟨rfl, rfl⟩ := h
      simp only [VR] at hx
      subst hx
      have hcap : b.size ≤ Go.grownCap w b.size 0 et := by
        show b.size ≤ Go.Question.cut _ _
        simp [Go.Question.cut]
      have hsz : (Go.Lib.bytesCells w et b).size = Go.grownCap w b.size 0 et := by
        have : b.data.size = b.size := rfl
        simp only [Go.Lib.bytesCells, Array.size_append, Array.size_map, Array.size_replicate]
        omega
      have hnew := Go.Lib.bytesWorld_at_new w et b
      refine ⟨_, Go.Lib.bytesWorld w et b, g.rho.set slot (w.heap.size, (Go.Lib.bytesCells w et b).size), Go.Lib.run_convert_string_bytes w s t et b hs ht he, Rho.set_ext hm, fun l hl => rho_set_ne _ _ hl, ?_, ?_, ⟨rfl, rfl, rfl, by rw [Go.Lib.bytesWorld_size]; omega⟩⟩
      · simp only [VR]
        exact ⟨_, _, _, rho_set_same _ _ _, rfl, hcap, by rw [hsz]; omega⟩
      · refine WR.new hw hm (fun j hj => Go.Lib.bytesWorld_at_old w et b j hj) ?_
        obtain ⟨p1, p2⟩ := ofBytes_rel (ro := g.ro) (h := g.rho.set slot (w.heap.size, (Go.Lib.bytesCells w et b).size)) b.data.toList
        refine ⟨_, _, _, hnew, rfl, ?_, ?_, ?_, ?_⟩
        · intro u hu
          simp only [Go.Lib.bytesCells, Array.toList_append, Array.toList_map, List.mem_append, Array.toList_replicate, List.mem_replicate] at hu
          rcases hu with hu | hu
          · exact p2 u hu
          · rw [hu.2]; rfl
        · have := p1.append (ds := []) (k := (Array.replicate (Go.grownCap w b.size 0 et - b.size) (Value.int .u8 0)).toList) (by simp [ofBytes]) (by simp [PR])
          simpa [Go.Lib.bytesCells] using this
        · intro i hi
          simp only
          omega
        · simp only [Bool.false_eq_true, if_false]
          exact hw.keep_size
    · cases h
  | _ => cases h

end
end Pi

