/- The value-level interpreter: its values, its code, its run. Plain definitions; nothing of any program. -/
import GoSem.Step
namespace Pi
open Go (IntKind TypeId FuncId Fn BinOp UnOp LoopState)

inductive V where
  | b (x : Bool)
  | i (k : IntKind) (n : Int)
  | s (x : ByteArray)
  | np
  | p (l off : Nat)
  | rp (cs : List V)
  | ns
  | sl (cs : List V) (len : Nat)
  | ms (l off len esz : Nat)
  | nm
  | mp (l : Nat)
  | rm (ks vs : List V)
  | nf
  | fn (f : Fn) (first cap : List V)
  | ni
  | fc (t : TypeId) (v : V)
  | ag (cs : List V)
  | tu (vs : List V)
  | un
  deriving Inhabited

def V.cells : V → List V
  | .ag cs => cs
  | v => [v]

/-- May it be put into cells? -/
def V.stor : V → Bool
  | .tu _ | .un => false
  | _ => true

inductive Opd where
  | t (n : Nat)
  | c (v : V)

/-- The kinds of what is compared: numbers, truths, texts. -/
inductive K where
  | i | b | s
  deriving DecidableEq

/-- What two values are compared by: one scalar, or scalar cells. -/
inductive Q where
  | one (k : K)
  | many (ks : List K)

/-- What a length is asked of: a text, a slice, a map. -/
inductive LK where
  | s | l | m

inductive POp where
  | mv (x : Opd)
  | pk (c a b : Opd)
  | al (z : List V)
  | bx (x : Opd)
  | bd (z : List V) (ps : List (Nat × Nat × Opd))
  | bs (esz n : Nat) (z : List V) (ps : List (Nat × Nat × Opd))
  | ld (ag : Bool) (n : Nat) (a : Opd)
  | st (n : Nat) (a x : Opd)
  | nc (x : Opd)
  | bi (op : BinOp) (x y : Opd)
  | eq (neg : Bool) (q : Q) (x y : Opd)
  | un (op : UnOp) (x : Opd)
  | ci (k : IntKind) (x : Opd)
  | cbs (x : Opd)
  | csb (x : Opd)
  | mi (t : TypeId) (x : Opd)
  | mf (f : Fn) (first cap : List Opd)
  | mm
  | mk (esz : Nat) (z : List V) (len cap : Opd)
  | ss (x : Opd) (lo hi : Option Opd)
  | sv (esz : Nat) (x : Opd) (lo hi mx : Option Opd)
  | sa (n esz : Nat) (x : Opd) (lo hi : Option Opd)
  | fa (off : Nat) (x : Opd)
  | fe (ag : Bool) (off n : Nat) (x : Opd)
  | ia (esz : Nat) (x i : Opd)
  | iz (len esz : Nat) (x i : Opd)
  | xa (ag : Bool) (len esz : Nat) (x i : Opd)
  | xs (x i : Opd)
  | lk (q : Q) (z : V) (m k : Opd) (ok : Bool)
  | mu (q : Q) (m k v : Opd)
  | ta (t : TypeId) (z : V) (x : Opd) (ok : Bool)
  | ex (x : Opd) (i : Nat)
  | ln (k : LK) (x : Opd)
  | ap (esz : Nat) (s x : Opd)
  | cp (esz : Nat) (d x : Opd)
  | mx (xs : List Opd)
  | mn (xs : List Opd)
  | ca (f : Opd) (args : List Opd)
  | pa (x : Opd)
  | df (f : Opd) (args : List Opd)
  | rc
  | no

structure POper where
  d : Option Nat
  o : POp
  g : Option (Nat × Bool)

/-- A piece of a region: in order, or in any order (with the pairs of operations that have to touch unlike things). -/
inductive Seg where
  | seq (ops : List POper)
  | any (ops : List POper) (prs : List (Nat × Nat))

inductive PCode where
  | skip
  | reg (segs : List Seg)
  | seq (a b : PCode)
  | cond (c : Opd) (a b : PCode)
  | block (id : Nat) (c : PCode)
  | loop (c : PCode)
  | rf (f : Opd) (ps : List Nat) (asg body : PCode)
  | exit (id : Nat)
  | scope (c : PCode)
  | ret
  deriving Inhabited

abbrev Env := Nat → V
def Env.set (e : Env) (t : Nat) (v : V) : Env := fun j => if j = t then v else e j

/-- How a piece of code ends. -/
inductive X where
  | nor
  | exit (id : Nat)
  | ret
  | pan (v : V)

structure LoopRec where
  e : Env
  ps : List Nat
  asg : PCode
  body : PCode
  st : LoopState
  pend : Option X

inductive PObj where
  | cells (cs : List V) (ro : Bool)
  | map (ks vs : List V) (ro : Bool)
  | loop (r : LoopRec)
  | dfr

abbrev Sto := Nat → Option PObj
def Sto.set (m : Sto) (l : Nat) (o : Option PObj) : Sto := fun j => if j = l then o else m j
abbrev Ws := List (Nat × Option PObj)
def Sto.app (m : Sto) (ws : Ws) : Sto := ws.foldl (fun m w => m.set w.1 w.2) m

def Opd.ev (e : Env) : Opd → V
  | .t n => e n
  | .c v => v

def eqK : K → V → V → Option Bool
  | .i, .i k a, .i k' b => if k = k' then some (a == b) else none
  | .b, .b a, .b b => some (a == b)
  | .s, .s a, .s b => some (a == b)
  | _, _, _ => none

def eqL : List K → List V → List V → Option Bool
  | [], [], [] => some true
  | k :: ks, x :: xs, y :: ys => (eqK k x y).bind fun c => (eqL ks xs ys).map fun d => c && d
  | _, _, _ => none

def eqQ : Q → V → V → Option Bool
  | .one k, x, y => eqK k x y
  | .many ks, .ag xs, .ag ys => eqL ks xs ys
  | _, _, _ => none

/-- Where a key stands, of some keys. -/
def find (q : Q) (k : V) : List V → Nat → Option (Option Nat)
  | [], _ => some none
  | x :: xs, j => (eqQ q k x).bind fun c => if c then some (some j) else find q k xs (j + 1)

def findIn (q : Q) (k : V) (ks : List V) : Option (Option Nat) := if (eqQ q k k).isSome then find q k ks 0 else none

/-- What a map tells of a key. -/
def look (q : Q) (z k : V) (ok : Bool) (ks vs : List V) : Option (V × List (Nat × Option PObj)) := (findIn q k ks).bind fun
  | some j => (vs[j]?).map fun v => (if ok then .tu [v, .b true] else v, [])
  | none => some (if ok then .tu [z, .b false] else z, [])

def binI (op : BinOp) (k : IntKind) (a b : Int) : Option V :=
  match op with
  | .add => some (.i k (k.wrap (a + b)))
  | .sub => some (.i k (k.wrap (a - b)))
  | .mul => some (.i k (k.wrap (a * b)))
  | .quo => if b = 0 then none else some (.i k (k.wrap (a.tdiv b)))
  | .rem => if b = 0 then none else some (.i k (a.tmod b))
  | .and => some (.i k (k.wrap (BitVec.ofInt k.bits a &&& BitVec.ofInt k.bits b).toNat))
  | .or => some (.i k (k.wrap (BitVec.ofInt k.bits a ||| BitVec.ofInt k.bits b).toNat))
  | .xor => some (.i k (k.wrap (BitVec.ofInt k.bits a ^^^ BitVec.ofInt k.bits b).toNat))
  | .andNot => some (.i k (k.wrap (BitVec.ofInt k.bits a &&& ~~~(BitVec.ofInt k.bits b)).toNat))
  | .eql => some (.b (a == b))
  | .neq => some (.b (a != b))
  | .lss => some (.b (decide (a < b)))
  | .leq => some (.b (decide (a ≤ b)))
  | .gtr => some (.b (decide (a > b)))
  | .geq => some (.b (decide (a ≥ b)))
  | .shl | .shr => none

def BIG : Nat := 2147483648

def bin (op : BinOp) (x y : V) : Option V :=
  match x, y with
  | .i k a, .i k' b =>
    match op with
    | .shl => if b < 0 then none else some (.i k (k.wrap (a * 2 ^ min b.toNat k.bits)))
    | .shr => if b < 0 then none else some (.i k (a.fdiv (2 ^ min b.toNat k.bits)))
    | op => if k = k' then binI op k a b else none
  | .s a, .s b =>
    match op with
    | .add => if a.size + b.size ≤ BIG then some (.s (a ++ b)) else none
    | .eql => some (.b (a.toList == b.toList))
    | .neq => some (.b (!(a.toList == b.toList)))
    | _ => none
  | _, _ => none

def una (op : UnOp) (x : V) : Option V :=
  match op, x with
  | .not, .b a => some (.b (!a))
  | .neg, .i k n => some (.i k (k.wrap (0 - n)))
  | _, _ => none

/-- Some cells put in the place of others. -/
def splice (cs : List V) (off : Nat) (xs : List V) : List V := cs.take off ++ xs ++ cs.drop (off + xs.length)

def fill (e : Env) (cs : List V) : List (Nat × Nat × Opd) → Option (List V)
  | [] => some cs
  | (off, n, x) :: r =>
    let c := (x.ev e).cells
    if c.length = n ∧ off + n ≤ cs.length ∧ (x.ev e).stor then fill e (splice cs off c) r else none

def zeros (z : List V) : Nat → List V
  | 0 => []
  | n + 1 => z ++ zeros z n

def getPart (ag : Bool) (n : Nat) (cs : List V) (off : Nat) : Option V :=
  if ag then (if off + n ≤ cs.length then some (.ag ((cs.drop off).take n)) else none) else cs[off]?

/-- A slice's cells. -/
def slCells (m : Sto) (esz : Nat) : V → Option (List V)
  | .ns => some []
  | .sl cs len => if cs.length = len * esz then some cs else none
  | .ms l off len esz' =>
    match m l with
    | some (.cells cs _) => if esz' = esz ∧ off + len * esz ≤ cs.length then some ((cs.drop off).take (len * esz)) else none
    | _ => none
  | _ => none

def bytesOf : List V → Option (List UInt8)
  | [] => some []
  | .i .u8 n :: r => (bytesOf r).map fun l => UInt8.ofNat n.toNat :: l
  | _ :: _ => none

def ofBytes (l : List UInt8) : List V := l.map fun c => .i .u8 c.toNat

/-- The cells of what is put behind a slice. -/
def apCells (m : Sto) (esz : Nat) : V → Option (List V)
  | .s a => if esz = 1 then some (ofBytes a.data.toList) else none
  | v => slCells m esz v

def lenV (m : Sto) : V → Option Nat
  | .s x => some x.size
  | .ns => some 0
  | .sl _ n => some n
  | .ms _ _ n _ => some n
  | .nm => some 0
  | .rm ks _ => some ks.length
  | .mp l => match m l with | some (.map ks _ _) => some ks.length | _ => none
  | _ => none

/-- A slice's length. -/
def lenSl : V → Option Nat
  | .ns => some 0
  | .sl _ n => some n
  | .ms _ _ n _ => some n
  | _ => none

def lenK (m : Sto) : LK → V → Option Nat
  | .s, .s x => some x.size
  | .l, v => lenSl v
  | .m, .nm => some 0
  | .m, .rm ks _ => some ks.length
  | .m, .mp l => match m l with | some (.map ks _ _) => some ks.length | _ => none
  | _, _ => none

def intOf : V → Option Int
  | .i _ n => some n
  | _ => none

def bnd (e : Env) (o : Option Opd) (d : Nat) : Option Nat :=
  match o with
  | none => some d
  | some x => match x.ev e with
    | .i _ n => if 0 ≤ n then some n.toNat else none
    | _ => none

def max2 : V → V → Option V
  | .i k a, .i _ b => some (.i k (if b > a then b else a))
  | _, _ => none

def min2 : V → V → Option V
  | .i k a, .i _ b => some (.i k (if b < a then b else a))
  | _, _ => none

def foldV (f : V → V → Option V) : V → List V → Option V
  | x, [] => some x
  | x, y :: r => (f x y).bind fun z => foldV f z r

/-- Of an operation that is no call and ends nothing: its value, and what it writes. A thing that it makes lies at 'sl'. -/
def opD (o : POp) (e : Env) (m : Sto) (slot : Nat) : Option (V × Ws) :=
  match o with
  | .mv x => some (x.ev e, [])
  | .pk c a b => match c.ev e with
    | .b t => some (if t then a.ev e else b.ev e, [])
    | _ => none
  | .al z => some (.p slot 0, [(slot, some (.cells z false))])
  | .bx x => if (x.ev e).stor then some (.p slot 0, [(slot, some (.cells (x.ev e).cells false))]) else none
  | .bd z ps => (fill e z ps).map fun cs => (.ag cs, [])
  | .bs esz n z ps =>
    if n = 0 then (match ps with | [] => some (.ns, []) | _ => none) else
    (fill e (zeros z n) ps).map fun cs => (.ms slot 0 n esz, [(slot, some (.cells cs false))])
  | .ld ag n a => match a.ev e with
    | .p l off => match m l with
      | some (.cells cs _) => (getPart ag n cs off).map fun v => (v, [])
      | _ => none
    | .rp cs => (getPart ag n cs 0).map fun v => (v, [])
    | _ => none
  | .st n a x => match a.ev e with
    | .p l off => match m l with
      | some (.cells cs false) =>
        if (x.ev e).cells.length = n ∧ off + n ≤ cs.length ∧ (x.ev e).stor then some (.un, [(l, some (.cells (splice cs off (x.ev e).cells) false))]) else none
      | _ => none
    | _ => none
  | .nc x => match x.ev e with
    | .p l off => some (.p l off, [])
    | .rp cs => some (.rp cs, [])
    | .fn (.func f) a c => some (.fn (.func f) a c, [])
    | .fn (.yield f) a c => some (.fn (.yield f) a c, [])
    | _ => none
  | .bi op x y => (bin op (x.ev e) (y.ev e)).map fun v => (v, [])
  | .eq neg q x y => (eqQ q (x.ev e) (y.ev e)).map fun c => (.b (if neg then !c else c), [])
  | .un op x => (una op (x.ev e)).map fun v => (v, [])
  | .ci k x => match x.ev e with
    | .i _ n => some (.i k (k.wrap n), [])
    | _ => none
  | .cbs x => ((slCells m 1 (x.ev e)).bind bytesOf).map fun l => (.s ⟨l.toArray⟩, [])
  | .csb x => match x.ev e with
    | .s a => if a.size ≤ BIG then some (.ms slot 0 a.size 1, [(slot, some (.cells (ofBytes a.data.toList) false))]) else none
    | _ => none
  | .mi t x => some (.fc t (x.ev e), [])
  | .mf f a c => match f with
    | .func g => some (.fn (.func g) (a.map (Opd.ev e)) (c.map (Opd.ev e)), [])
    | _ => none
  | .mm => some (.mp slot, [(slot, some (.map [] [] false))])
  | .mk esz z len cap => match len.ev e, cap.ev e with
    | .i .i64 n, .i .i64 c =>
      if 0 ≤ n ∧ n = c ∧ n ≤ BIG then
        if n = 0 then some (.ns, []) else some (.ms slot 0 n.toNat esz, [(slot, some (.cells (zeros z n.toNat) false))])
      else none
    | _, _ => none
  | .ss x lo hi => match x.ev e with
    | .s a => (bnd e hi a.size).bind fun h => (bnd e lo 0).bind fun l => if l ≤ h ∧ h ≤ a.size then some (.s (a.extract l h), []) else none
    | _ => none
  | .sv esz x lo hi mx =>
    match mx with
    | some mx =>   -- x[lo:hi:mx]: nothing can be put behind it only where all are alike
      (bnd e (some mx) 0).bind fun c => (bnd e hi 0).bind fun h => (bnd e lo 0).bind fun l =>
        (lenSl (x.ev e)).bind fun n => if c = l ∧ h = l ∧ hi.isSome ∧ c ≤ n then some (.ns, []) else none
    | none =>
      match x.ev e with
      | .ns => (bnd e hi 0).bind fun h => (bnd e lo 0).bind fun l => if l = 0 ∧ h = 0 then some (.ns, []) else none
      | .sl cs n => (bnd e hi n).bind fun h => (bnd e lo 0).bind fun l =>
        if l ≤ h ∧ h ≤ n ∧ cs.length = n * esz then some (.sl ((cs.drop (l * esz)).take ((h - l) * esz)) (h - l), []) else none
      | .ms b off n esz' => (bnd e hi n).bind fun h => (bnd e lo 0).bind fun l =>
        if l ≤ h ∧ h ≤ n ∧ esz' = esz then
          (if l = 0 then some (.ms b off h esz, []) else if h = l then some (.sl [] 0, []) else some (.ms b (off + l * esz) (h - l) esz, []))
        else none
      | _ => none
  | .sa n esz x lo hi =>
    match x.ev e with
    | .p b off => (bnd e hi n).bind fun h => (bnd e lo 0).bind fun l =>
      match m b with
      | some (.cells cs _) =>
        if l ≤ h ∧ h ≤ n ∧ off + n * esz ≤ cs.length then
          (if l = 0 then some (.ms b off h esz, []) else if h = l then some (.sl [] 0, []) else some (.ms b (off + l * esz) (h - l) esz, []))
        else none
      | _ => none
    | _ => none
  | .fa off x => match x.ev e with
    | .p l o => some (.p l (o + off), [])
    | .rp cs => some (.rp (cs.drop off), [])
    | _ => none
  | .fe ag off n x => match x.ev e with
    | .ag cs => (getPart ag n cs off).map fun v => (v, [])
    | _ => none
  | .ia esz x j => match x.ev e, j.ev e with
    | .sl cs len, .i _ n => if 0 ≤ n ∧ n < len then some (.rp ((cs.drop (n.toNat * esz)).take esz), []) else none
    | .ms l off len esz', .i _ n => if 0 ≤ n ∧ n < len ∧ esz' = esz then some (.p l (off + n.toNat * esz), []) else none
    | _, _ => none
  | .iz len esz x j => match x.ev e, j.ev e with
    | .p l off, .i _ n => if 0 ≤ n ∧ n < len then some (.p l (off + n.toNat * esz), []) else none
    | .rp cs, .i _ n => if 0 ≤ n ∧ n < len then some (.rp (cs.drop (n.toNat * esz)), []) else none
    | _, _ => none
  | .xa ag len esz x j => match x.ev e, j.ev e with
    | .ag cs, .i _ n => if 0 ≤ n ∧ n < len then (getPart ag esz cs (n.toNat * esz)).map fun v => (v, []) else none
    | _, _ => none
  | .xs x j => match x.ev e, j.ev e with
    | .s a, .i _ n => if 0 ≤ n then (a[n.toNat]?).map fun c => (.i .u8 c.toNat, []) else none
    | _, _ => none
  | .lk q z mm k ok =>
    match mm.ev e with
    | .nm => look q z (k.ev e) ok [] []
    | .rm ks vs => look q z (k.ev e) ok ks vs
    | .mp l => match m l with
      | some (.map ks vs _) => look q z (k.ev e) ok ks vs
      | _ => none
    | _ => none
  | .mu q mm k v => match mm.ev e with
    | .mp l => match m l with
      | some (.map ks vs false) => (findIn q (k.ev e) ks).map fun
        | some j => (.un, [(l, some (.map ks (vs.set j (v.ev e)) false))])
        | none => (.un, [(l, some (.map (ks ++ [k.ev e]) (vs ++ [v.ev e]) false))])
      | _ => none
    | _ => none
  | .ta t z x ok => match x.ev e with
    | .fc t' v => if t' = t then some (if ok then .tu [v, .b true] else v, []) else if ok then some (.tu [z, .b false], []) else none
    | .ni => if ok then some (.tu [z, .b false], []) else none
    | _ => none
  | .ex x j => match x.ev e with
    | .tu vs => (vs[j]?).map fun v => (v, [])
    | _ => none
  | .ln k x => (lenK m k (x.ev e)).map fun (n : Nat) => (V.i .i64 (n : Int), [])
  | .ap esz s x =>
    (apCells m esz (x.ev e)).bind fun xs => (lenV m (x.ev e)).bind fun n =>
      match s.ev e with
      | .ns => if n = 0 then some (.ns, []) else if n ≤ BIG then some (.ms slot 0 n esz, [(slot, some (.cells xs false))]) else none
      | .ms l 0 len esz' =>
        if n = 0 then some (.ms l 0 len esz', []) else
        match m l with
        | some (.cells cs false) =>
          if esz' = esz ∧ len * esz ≤ cs.length ∧ len + n ≤ BIG then
            some (.ms slot 0 (len + n) esz, [(l, none), (slot, some (.cells (cs.take (len * esz) ++ xs) false))])
          else none
        | _ => none
      | _ => none
  | .cp esz d x =>
    (apCells m esz (x.ev e)).bind fun xs => (lenV m (x.ev e)).bind fun n =>
      match d.ev e with
      | .ms l off len esz' => match m l with
        | some (.cells cs false) =>
          if esz' = esz ∧ off + len * esz ≤ cs.length then
            some (.i .i64 (min n len : Nat), [(l, some (.cells (splice cs off (xs.take (min n len * esz))) false))])
          else none
        | _ => none
      | _ => none
  | .mx l => match l with
    | [] => none
    | x :: r => (foldV max2 (x.ev e) (r.map (Opd.ev e))).map fun v => (v, [])
  | .mn l => match l with
    | [] => none
    | x :: r => (foldV min2 (x.ev e) (r.map (Opd.ev e))).map fun v => (v, [])
  | .ca _ _ | .pa _ | .df _ _ | .rc | .no => none

def refOf : V → List Nat
  | .p l _ => [l]
  | .ms l _ _ _ => [l]
  | .mp l => [l]
  | _ => []

/-- What it touches in the store. -/
def POp.touch (o : POp) (e : Env) : List Nat :=
  match o with
  | .ld _ _ a => refOf (a.ev e)
  | .st _ a _ => refOf (a.ev e)
  | .cbs x => refOf (x.ev e)
  | .sv _ x _ _ _ => refOf (x.ev e)
  | .sa _ _ x _ _ => refOf (x.ev e)
  | .lk _ _ m _ _ => refOf (m.ev e)
  | .mu _ m _ _ => refOf (m.ev e)
  | .ln _ x => refOf (x.ev e)
  | .ap _ s x => refOf (s.ev e) ++ refOf (x.ev e)
  | .cp _ d x => refOf (d.ev e) ++ refOf (x.ev e)
  | _ => []

def Opd.tm : Opd → List Nat
  | .t n => [n]
  | .c _ => []

def tmO : Option Opd → List Nat
  | none => []
  | some x => x.tm

/-- The slots that it reads. -/
def POp.reads : POp → List Nat
  | .mv x | .bx x | .ld _ _ x | .nc x | .un _ x | .ci _ x | .cbs x | .csb x | .mi _ x | .fa _ x | .fe _ _ _ x | .ta _ _ x _ | .ex x _ | .ln _ x | .pa x => x.tm
  | .pk c a b => c.tm ++ a.tm ++ b.tm
  | .al _ | .mm | .rc | .no => []
  | .bd _ ps | .bs _ _ _ ps => ps.flatMap fun p => p.2.2.tm
  | .st _ a x | .bi _ a x | .eq _ _ a x | .mk _ _ a x | .ia _ a x | .iz _ _ a x | .xa _ _ _ a x | .xs a x | .ap _ a x | .cp _ a x => a.tm ++ x.tm
  | .mf _ a c => a.flatMap Opd.tm ++ c.flatMap Opd.tm
  | .ss x lo hi => x.tm ++ tmO lo ++ tmO hi
  | .sv _ x lo hi top => x.tm ++ tmO lo ++ tmO hi ++ tmO top
  | .sa _ _ x lo hi => x.tm ++ tmO lo ++ tmO hi
  | .lk _ _ m k _ => m.tm ++ k.tm
  | .mu _ m k v => m.tm ++ k.tm ++ v.tm
  | .mx l | .mn l => l.flatMap Opd.tm
  | .ca f l | .df f l => f.tm ++ l.flatMap Opd.tm

def POper.reads (p : POper) : List Nat := p.o.reads ++ (match p.g with | none => [] | some (t, _) => [t])

/-- May two operations meet in their slots? -/
def slotsMeet (a b : POper) : Bool :=
  (match a.d with | none => false | some t => b.reads.contains t || b.d == some t) || (match b.d with | none => false | some t => a.reads.contains t)

/-- Which memory an operation may touch: nothing, or it reads, or it writes (or calls). -/
def POp.cls : POp → Nat
  | .ld .. | .cbs .. | .sv .. | .sa .. | .lk .. | .ln .. => 1
  | .st .. | .mu .. | .ap .. | .cp .. | .ca .. | .pa .. | .df .. | .rc | .al .. | .bx .. | .bs .. | .csb .. | .mm | .mk .. => 2
  | _ => 0

/-- What it touches in a region of open order: its own number too, where it writes. -/
def POp.tch (o : POp) (e : Env) (x : Nat) : List Nat := if o.cls = 2 then x :: o.touch e else o.touch e

/-! Freezing: a value without the store. The numbers: what was looked into. -/
mutual
def frzW (der : Nat → Option (Bool × List V × List V × List Nat)) : V → Option (V × List Nat)
  | .b x => some (.b x, [])
  | .i k n => some (.i k n, [])
  | .s x => some (.s x, [])
  | .np => some (.np, [])
  | .p l off => (der l).bind fun r => if r.1 then none else some (.rp (r.2.1.drop off), l :: r.2.2.2)
  | .rp cs => some (.rp cs, [])
  | .ns => some (.sl [] 0, [])
  | .sl cs n => some (.sl cs n, [])
  | .ms l off n esz => (der l).bind fun r => if r.1 = false ∧ off + n * esz ≤ r.2.1.length then some (.sl ((r.2.1.drop off).take (n * esz)) n, l :: r.2.2.2) else none
  | .nm => some (.rm [] [], [])
  | .mp l => (der l).bind fun r => if r.1 then some (.rm r.2.1 r.2.2.1, l :: r.2.2.2) else none
  | .rm ks vs => some (.rm ks vs, [])
  | .nf => some (.nf, [])
  | .fn f a c => match f with
    | .func g => (frzL der a).bind fun x => (frzL der c).bind fun y => some (.fn (.func g) x.1 y.1, x.2 ++ y.2)
    | _ => none
  | .ni => some (.ni, [])
  | .fc t v => (frzW der v).bind fun x => some (.fc t x.1, x.2)
  | .ag cs => (frzL der cs).bind fun x => some (.ag x.1, x.2)
  | .tu vs => (frzL der vs).bind fun x => some (.tu x.1, x.2)
  | .un => none
def frzL (der : Nat → Option (Bool × List V × List V × List Nat)) : List V → Option (List V × List Nat)
  | [] => some ([], [])
  | v :: r => (frzW der v).bind fun x => (frzL der r).bind fun y => some (x.1 :: y.1, x.2 ++ y.2)
end

/-- What lies at a place of the store, frozen: cells, or keys and values. -/
def der (m : Sto) : Nat → Nat → Option (Bool × List V × List V × List Nat)
  | 0, _ => none
  | d + 1, l => match m l with
    | some (.cells cs _) => (frzL (der m d) cs).bind fun x => some (false, x.1, [], x.2)
    | some (.map ks vs _) => (frzL (der m d) ks).bind fun x => (frzL (der m d) vs).bind fun y => some (true, x.1, y.1, x.2 ++ y.2)
    | _ => none

def DEEP : Nat := 24
def freeze (m : Sto) (v : V) : Option (V × List Nat) := frzW (der m DEEP) v
def freezeL (m : Sto) (l : List V) : Option (List V × List Nat) := frzL (der m DEEP) l

/-- Nothing in a (frozen) value lies in memory. -/
def V.sc1 : V → Bool
  | .b _ | .i _ _ | .s _ | .np | .nf | .ni | .sl [] 0 => true
  | _ => false
def V.sc2 : V → Bool
  | .ag cs => cs.all V.sc1
  | x => x.sc1
def V.scal : V → Bool
  | .tu cs => cs.all V.sc2
  | x => x.sc2

def markRo (m : Sto) : List Nat → Sto
  | [] => m
  | l :: r => markRo (m.set l (match m l with
    | some (.cells cs _) => some (.cells cs true)
    | some (.map ks vs _) => some (.map ks vs true)
    | o => o)) r

/-- The store, of some things alone. -/
def Sto.only (m : Sto) (ids : List Nat) : Sto := fun l => if ids.contains l then m l else none

/-- What a call in a region of open order comes to: its value, what it writes, what it touches, the next number. -/
structure QR where
  v : V
  ws : Ws
  ids : List Nat
  x : Nat

/-- How a call ends. -/
inductive CR where
  | ret (v : V)
  | pan (v : V)

inductive D where
  | mark (l : Nat)
  | call (f : V) (args : List V)

inductive RVar where
  | t (n : Nat)
  | c (a : Nat) (ag : Bool) (n : Nat)

structure PFun where
  code : PCode
  rs : List RVar

structure Ctx where
  fns : Nat → Option PFun
  opn : Nat → Bool
  /-- functions whose contract is proved by hand: their run, of an argument list, in a store; a thing that they make lies at the number -/
  prim : Nat → Option (List V → Sto → Nat → Option (V × Ws))

structure S where
  e : Env
  m : Sto
  x : Nat
  ds : List D
  rv : Option V
  /-- in a round of a loop over a function -/
  rd : Option Nat

/-- A round's loop is there. -/
def inRound (s : S) : Bool :=
  match s.rd with
  | none => true
  | some l => match s.m l with | some (.loop _) => true | _ => false

def wanted (g : Option (Nat × Bool)) (e : Env) : Option Bool :=
  match g with
  | none => some true
  | some (t, w) => match e t with | .b c => some (c == w) | .tu [] => some false | _ => none

def S.put (s : S) (d : Option Nat) (v : V) : S :=
  match d with
  | some t => { s with e := s.e.set t v }
  | none => s

def resV (e : Env) (m : Sto) : RVar → Option V
  | .t n => some (e n)
  | .c a ag n => match e a with
    | .p l off => match m l with
      | some (.cells cs _) => getPart ag n cs off
      | _ => none
    | _ => none

def resL (e : Env) (m : Sto) : List RVar → Option (List V)
  | [] => some []
  | r :: rs => (resV e m r).bind fun v => (resL e m rs).map fun l => v :: l

def result (e : Env) (m : Sto) (rs : List RVar) : Option V :=
  (resL e m rs).map fun l => match l with | [v] => v | l => .tu l

def envOf (args : List V) : Env := fun j => args.getD j .un

def setAll (e : Env) : List Nat → List V → Option Env
  | [], [] => some e
  | t :: ts, v :: vs => setAll (e.set t v) ts vs
  | _, _ => none

/-- Do operations of open order touch unlike things? -/
def apartAll (ts : List (List Nat)) (prs : List (Nat × Nat)) : Bool :=
  prs.all fun (i, j) => (ts.getD i []).all fun l => !((ts.getD j []).contains l)

mutual
def exec (C : Ctx) : Nat → PCode → S → Option (X × S)
  | 0, _, _ => none
  | n + 1, c, s =>
    match c with
    | .skip => some (.nor, s)
    | .reg segs => runSegs C n segs s
    | .seq a b => (exec C n a s).bind fun r => match r.1 with
      | .nor => exec C n b r.2
      | x => some (x, r.2)
    | .cond c a b => match c.ev s.e with
      | .b t => exec C n (if t then a else b) s
      | _ => none
    | .block id c => (exec C n c s).bind fun r => match r.1 with
      | .exit id' => some (if id' = id then .nor else .exit id', r.2)
      | x => some (x, r.2)
    | .loop c => (exec C n c s).bind fun r => match r.1 with
      | .nor => exec C n (.loop c) r.2
      | x => some (x, r.2)
    | .scope c => exec C n c s
    | .exit id => some (.exit id, s)
    | .ret => some (.ret, s)
    | .rf f ps asg body =>
      let dl := s.x
      let ll := s.x + 1
      let m := (if s.rd.isSome then s.m else s.m.set dl (some .dfr)).set ll (some (.loop ⟨s.e, ps, asg, body, .ready, none⟩))
      let ds := if s.rd.isSome then s.ds else .mark dl :: s.ds
      if !inRound s then none else
      (callV C n (f.ev s.e) [.fn (.yield ll) [] []] m (s.x + 2)).bind fun r => match r.1 with
        | .pan v => some (.pan v, { s with m := r.2.1, x := r.2.2, ds := ds })
        | .ret _ => match r.2.1 ll with
          | some (.loop q) =>
            if q.st = .busy then none else
            some (match q.pend with | none => .nor | some x => x, { s with m := r.2.1.set ll none, x := r.2.2, ds := ds })
          | _ => none

def runSegs (C : Ctx) : Nat → List Seg → S → Option (X × S)
  | 0, _, _ => none
  | _ + 1, [], s => some (.nor, s)
  | n + 1, .seq ops :: r, s => (runOps C n ops s).bind fun q => match q.1 with
    | .nor => runSegs C n r q.2
    | x => some (x, q.2)
  | n + 1, .any ops prs :: r, s => (runAny C n ops s []).bind fun q => if apartAll q.2 prs then runSegs C n r q.1 else none

def runOps (C : Ctx) : Nat → List POper → S → Option (X × S)
  | 0, _, _ => none
  | _ + 1, [], s => some (.nor, s)
  | n + 1, p :: r, s =>
    match wanted p.g s.e with
    | none => none
    | some false => runOps C n r (s.put p.d (.tu []))
    | some true =>
      match p.o with
      | .ca f args => (callV C n (f.ev s.e) (args.map (Opd.ev s.e)) s.m s.x).bind fun q => match q.1 with
        | .ret v => runOps C n r ({ s with m := q.2.1, x := q.2.2 }.put p.d v)
        | .pan v => some (.pan v, { s with m := q.2.1, x := q.2.2 })
      | .pa x => match x.ev s.e with
        | .fc t v => some (.pan (.fc t v), s)
        | _ => none
      | .df f args => match f.ev s.e with
        | .fn (.func g) a c => if s.rd.isSome then none else runOps C n r ({ s with ds := .call (.fn (.func g) a c) (args.map (Opd.ev s.e)) :: s.ds }.put p.d (.tu []))
        | _ => none
      | .rc => match s.rv with
        | some v => runOps C n r ({ s with rv := none }.put p.d v)
        | none => none
      | o => (opD o s.e s.m s.x).bind fun q => runOps C n r ({ s with m := s.m.app q.2, x := s.x + 1 }.put p.d q.1)

/-- Operations of open order, in the text's; what each touches. -/
def runAny (C : Ctx) : Nat → List POper → S → List (List Nat) → Option (S × List (List Nat))
  | 0, _, _, _ => none
  | _ + 1, [], s, ts => some (s, ts.reverse)
  | n + 1, p :: r, s, ts =>
    match wanted p.g s.e with
    | none => none
    | some false => runAny C n r (s.put p.d (.tu [])) ([] :: ts)
    | some true =>
      match p.o with
      | .ca f args => (callQ C n (f.ev s.e) (args.map (Opd.ev s.e)) s.m s.x).bind fun q =>
          runAny C n r ({ s with m := s.m.app q.ws, x := q.x }.put p.d q.v) (q.ids :: ts)
      | .pa _ | .df _ _ | .rc => none
      | o => (opD o s.e s.m s.x).bind fun q => runAny C n r ({ s with m := s.m.app q.2, x := s.x + 1 }.put p.d q.1) (o.tch s.e s.x :: ts)

/-- A call in a region of open order: closed, a primitive, or in what it reaches alone. -/
def callQ (C : Ctx) : Nat → V → List V → Sto → Nat → Option QR
  | 0, _, _, _, _ => none
  | n + 1, f, args, m, x =>
    match f with
    | .fn (.func g) first cap =>
      let as := first ++ args ++ cap
      match C.prim g with
      | some h => (h as m x).map fun r => ⟨r.1, r.2, x :: as.flatMap refOf, x + 1⟩
      | none =>
        if C.opn g then none else
        (freezeL m as).bind fun a => (enter C n g a.1 (fun _ => none) 0 none).bind fun r => match r.1 with
          | .pan _ => none
          | .ret v => (freeze r.2.1 v).bind fun w => if w.1.scal ∨ a.2 = [] then some ⟨w.1, [], a.2, x⟩ else none
    | _ => none

/-- A function value called. -/
def callV (C : Ctx) : Nat → V → List V → Sto → Nat → Option (CR × Sto × Nat)
  | 0, _, _, _, _ => none
  | n + 1, f, args, m, x =>
    match f with
    | .fn (.func g) first cap =>
      let as := first ++ args ++ cap
      match C.prim g with
      | some h => (h as m x).map fun r => (.ret r.1, m.app r.2, x + 1)
      | none =>
        match (if C.opn g then none else freezeL m as) with
        | none => (enter C n g as m x none).map fun r => (r.1, r.2.1, r.2.2.1)
        | some a => (enter C n g a.1 (fun _ => none) 0 none).bind fun r => match r.1 with
          | .pan v => (freeze r.2.1 v).bind fun w => if w.1.scal then some (.pan w.1, m, x) else none
          | .ret v => (freeze r.2.1 v).bind fun w => some (.ret w.1, if w.1.scal then m else markRo m a.2, x)
    | .fn (.yield ll) [] [] =>
      match m ll with
      | some (.loop q) =>
        if q.st = .ready then
          (setAll q.e q.ps args).bind fun e =>
          (exec C n q.asg ⟨e, m, x, [], none, some ll⟩).bind fun r => match r.1 with
            | .nor => match r.2.m ll with
              | some (.loop q') =>
                if q'.st ≠ .ready then none else
                (exec C n q.body { r.2 with m := r.2.m.set ll (some (.loop { q' with st := .busy })) }).bind fun z =>
                  if !z.2.ds.isEmpty then none else
                  match z.1, z.2.m ll with
                  | .pan v, _ => some (.pan v, z.2.m, z.2.x)
                  | .nor, some (.loop q'') => some (.ret (.b true), z.2.m.set ll (some (.loop { q'' with st := .ready, pend := none })), z.2.x)
                  | y, some (.loop q'') => some (.ret (.b false), z.2.m.set ll (some (.loop { q'' with st := .done, pend := some y })), z.2.x)
                  | _, _ => none
              | _ => none
            | _ => none
        else none
      | _ => none
    | _ => none

/-- A function's body run, and what it has deferred. 'rv': what 'recover' would tell. The last: what it left to be recovered. -/
def enter (C : Ctx) : Nat → Nat → List V → Sto → Nat → Option V → Option (CR × Sto × Nat × Option V)
  | 0, _, _, _, _, _ => none
  | n + 1, g, as, m, x, rv =>
    (C.fns g).bind fun F => (exec C n F.code ⟨envOf as, m, x, [], rv, none⟩).bind fun r =>
      match r.1 with
      | .pan v => leave C n F r.2 (some v)
      | .nor => leave C n F r.2 none
      | .ret => leave C n F r.2 none
      | .exit _ => none

/-- What a frame does that returns, or (a value) is in panic. -/
def leave (C : Ctx) : Nat → PFun → S → Option V → Option (CR × Sto × Nat × Option V)
  | 0, _, _, _ => none
  | n + 1, F, s, pn =>
    match s.ds with
    | [] => match pn with
      | some v => some (.pan v, s.m, s.x, s.rv)
      | none => (result s.e s.m F.rs).map fun v => (.ret v, s.m, s.x, s.rv)
    | .mark l :: r => match s.m l with
      | some .dfr => leave C n F { s with m := s.m.set l none, ds := r } pn
      | _ => none
    | .call f args :: r =>
      match f with
      | .fn (.func g) first cap =>
        (enter C n g (first ++ args ++ cap) s.m s.x (some (pn.getD .ni))).bind fun q => match q.1 with
          | .pan _ => none
          | .ret _ => leave C n F { s with m := q.2.1, x := q.2.2.1, ds := r } (if q.2.2.2.isNone then none else pn)
      | _ => none
end

end Pi
