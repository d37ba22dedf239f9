/- The model's code with all types resolved: what the value-level interpreter runs. -/
import Derived.Test.YtglibfclhecbkaaYPi1
import GoSem.Step
namespace Pi
open Go (IntKind TypeId FuncId Fn BinOp UnOp LoopState Value Addr World Program Operand)

def cv1 : Value → Option V
  | .bool x => some (.b x)
  | .int k n => some (.i k n)
  | .string s => some (.s s)
  | .pointer none => some .np
  | .slice none 0 0 => some .ns
  | .map none => some .nm
  | .nilFunc => some .nf
  | .nilIface => some .ni
  | .func (.func f) a c => if a.size = 0 ∧ c.size = 0 then some (.fn (.func f) [] []) else none
  | _ => none

def cvL : List Value → Option (List V)
  | [] => some []
  | v :: r => (cv1 v).bind fun x => (cvL r).map fun l => x :: l

def cv : Value → Option V
  | .agg cs => (cvL cs.toList).map .ag
  | v => cv1 v

def opd : Operand → Option Opd
  | .tmp t => some (.t t)
  | .const v => (cv v).map .c
  | .func f => some (.c (.fn (.func f) [] []))
  | .global _ => none

def opds : List Operand → Option (List Opd)
  | [] => some []
  | x :: r => (opd x).bind fun y => (opds r).map fun l => y :: l

def opdO : Option Operand → Option (Option Opd)
  | none => some none
  | some x => (opd x).map some

def aggOf (P : Program) (t : TypeId) : Option Bool :=
  match P.underlying t with
  | some (.struct _) => some true
  | some (.array _ _) => some true
  | some _ => some false
  | none => none
def sizeIn (P : Program) (t : TypeId) : Option Nat := (P.info? t).map (·.size)
def zeroIn (P : Program) (t : TypeId) : Option Value := (P.info? t).bind (·.zero)
def zeroV (P : Program) (t : TypeId) : Option V := (zeroIn P t).bind cv
def zeroL (P : Program) (t : TypeId) : Option (List V) := (zeroIn P t).bind fun v => cvL v.cells.toList

/-- A type whose values are numbers, truths or texts, compared as such. -/
def kindT (P : Program) (t : TypeId) : Option K :=
  match P.underlying t with
  | some (.int _) => some .i
  | some .bool => some .b
  | some .string => some .s
  | _ => none

def fieldsK (P : Program) : List Go.Field → Nat → Option (List K)
  | [], _ => some []
  | f :: r, n => if f.name ≠ "_" ∧ f.offset = n ∧ aggOf P f.type = some false then (kindT P f.type).bind fun k => (fieldsK P r (n + 1)).map fun l => k :: l else none

def qOf (P : Program) (t : TypeId) : Option Q :=
  match P.underlying t with
  | some (.int _) => some (.one .i)
  | some .bool => some (.one .b)
  | some .string => some (.one .s)
  | some (.struct fs) => if P.stoodInHeld t then none else (fieldsK P fs.toList 0).map .many
  | some (.array n e) => if sizeIn P e = some 1 ∧ aggOf P e = some false then (kindT P e).map fun k => .many (List.replicate n k) else none
  | _ => none

def parts (P : Program) (fs : Array Go.Field) : List (Nat × Operand) → Option (List (Nat × Nat × Opd))
  | [] => some []
  | (j, x) :: r => (fs[j]?).bind fun f => (sizeIn P f.type).bind fun n => (opd x).bind fun y => (parts P fs r).map fun l => (f.offset, n, y) :: l

def partsA (size : Nat) : List (Nat × Operand) → Option (List (Nat × Nat × Opd))
  | [] => some []
  | (j, x) :: r => (opd x).bind fun y => (partsA size r).map fun l => (j * size, size, y) :: l

def LIM : Nat := 4096

def compCall (P : Program) (c : Go.Call) : Option POp :=
  match c.callee with
  | .value f => (opd f).bind fun f => (opds c.args.toList).map fun l => .ca f l
  | .builtin .len => match c.args.toList, c.argTypes.toList with
    | [x], [t] => match P.underlying t with
      | some (.array n _) => some (.mv (.c (.i .i64 n)))
      | some .string => (opd x).map (.ln .s)
      | some (.slice _) => (opd x).map (.ln .l)
      | some (.map _ _) => (opd x).map (.ln .m)
      | _ => none
    | _, _ => none
  | .builtin .append => match c.args.toList, c.argTypes.toList with
    | [s, x], [t, u] => match P.underlying t, P.underlying u with
      | some (.slice e), some (.slice _) => (P.info? e).bind fun inf => (zeroL P e).bind fun z => if 1 ≤ inf.size ∧ inf.bytes ≤ LIM ∧ z.length = inf.size then (opd s).bind fun s => (opd x).map fun x => .ap inf.size s x else none
      | some (.slice e), some .string => (P.info? e).bind fun inf => (zeroL P e).bind fun z => if 1 ≤ inf.size ∧ inf.bytes ≤ LIM ∧ z.length = inf.size then (opd s).bind fun s => (opd x).map fun x => .ap inf.size s x else none
      | _, _ => none
    | _, _ => none
  | .builtin .copy => match c.args.toList, c.argTypes.toList with
    | [s, x], t :: _ => match P.underlying t with
      | some (.slice e) => (sizeIn P e).bind fun n => if 1 ≤ n then (opd s).bind fun s => (opd x).map fun x => .cp n s x else none
      | _ => none
    | _, _ => none
  | .builtin .max => (opds c.args.toList).map .mx
  | .builtin .min => (opds c.args.toList).map .mn
  | .builtin .recover => some .rc
  | _ => none

def compOp (P : Program) (o : Go.Op) : Option POp :=
  match o with
  | .move x => (opd x).map .mv
  | .assign x => (opd x).map .mv
  | .pick c a b => (opd c).bind fun c => (opd a).bind fun a => (opd b).map fun b => .pk c a b
  | .alloc t => (zeroL P t).map .al
  | .box _ x => (opd x).map .bx
  | .build t ps => (zeroL P t).bind fun z => match P.underlying t with
    | some (.struct fs) => if fs.toList.all (fun f => (sizeIn P f.type).isSome) then (parts P fs ps.toList).map fun l => .bd z l else none
    | some (.array _ e) => (sizeIn P e).bind fun n => (partsA n ps.toList).map fun l => .bd z l
    | _ => none
  | .buildSlice t len ps => match P.underlying t with
    | some (.slice e) => (sizeIn P e).bind fun n => (zeroL P e).bind fun z => if 1 ≤ n ∧ z.length = n ∧ len * n ≤ 2 ^ 24 then (partsA n ps.toList).map fun l => .bs n len z l else none
    | _ => none
  | .load t a => (aggOf P t).bind fun g => (sizeIn P t).bind fun n => (opd a).map fun a => .ld g n a
  | .store t a x => (sizeIn P t).bind fun n => (opd a).bind fun a => (opd x).map fun x => .st n a x
  | .nilCheck x => (opd x).map .nc
  | .binOp op t x y _ => (opd x).bind fun x => (opd y).bind fun y => match P.underlying t with
    | some (.int _) => some (.bi op x y)
    | some .string => some (.bi op x y)
    | some _ => (qOf P t).bind fun q => if P.eqGuardType P.depth t then none else match op with
      | .eql => some (.eq false q x y)
      | .neq => some (.eq true q x y)
      | _ => none
    | none => none
  | .unOp op _ x => (opd x).map fun x => .un op x
  | .convert s d x => (opd x).bind fun x => match P.underlying s, P.underlying d with
    | some (.int _), some (.int k) => some (.ci k x)
    | some (.slice e), some .string => match P.underlying e with
      | some (.int .u8) => some (.cbs x)
      | _ => none
    | some .string, some (.slice e) => match P.underlying e with
      | some (.int .u8) => some (.csb x)
      | _ => none
    | _, _ => none
  | .makeInterface t x => match P.underlying t with
    | some (.interface _) => none
    | some _ => (opd x).map fun x => .mi t x
    | none => none
  | .makeFunc f a c => match f with
    | .func g => (opds a.toList).bind fun a => (opds c.toList).map fun c => .mf (.func g) a c
    | _ => none
  | .makeMap _ none => some .mm
  | .makeSlice t l c => match P.underlying t with
    | some (.slice e) => (P.info? e).bind fun inf => (zeroL P e).bind fun z =>
      if 1 ≤ inf.size ∧ inf.bytes ≤ LIM ∧ z.length = inf.size then (opd l).bind fun l => (opd c).map fun c => .mk inf.size z l c else none
    | _ => none
  | .slice t x lo hi mx => (opd x).bind fun x => (opdO lo).bind fun lo => (opdO hi).bind fun hi => (opdO mx).bind fun mx => match P.underlying t with
    | some .string => if mx.isSome then none else some (.ss x lo hi)
    | some (.slice e) => (sizeIn P e).bind fun n => if 1 ≤ n then some (.sv n x lo hi mx) else none
    | some (.array len e) => (sizeIn P e).bind fun n => if 1 ≤ n ∧ mx.isNone then some (.sa len n x lo hi) else none
    | _ => none
  | .fieldAddr t x f => match P.underlying t with
    | some (.struct fs) => (fs[f]?).bind fun f => (sizeIn P f.type).bind fun n => if 1 ≤ n then (opd x).map fun x => .fa f.offset x else none
    | _ => none
  | .field t x f => match P.underlying t with
    | some (.struct fs) => (fs[f]?).bind fun f => (aggOf P f.type).bind fun g => (sizeIn P f.type).bind fun n => (opd x).map fun x => .fe g f.offset n x
    | _ => none
  | .indexAddr t x i => (opd x).bind fun x => (opd i).bind fun i => match P.underlying t with
    | some (.slice e) => (sizeIn P e).bind fun n => some (.ia n x i)
    | some (.array len e) => (sizeIn P e).bind fun n => some (.iz len n x i)
    | _ => none
  | .index t x i => (opd x).bind fun x => (opd i).bind fun i => match P.underlying t with
    | some (.array len e) => (aggOf P e).bind fun g => (sizeIn P e).bind fun n => some (.xa g len n x i)
    | some .string => some (.xs x i)
    | _ => none
  | .lookup t m k ok => (opd m).bind fun m => (opd k).bind fun k => match P.underlying t with
    | some (.map kt e) => (qOf P kt).bind fun q => (zeroV P e).map fun z => .lk q z m k ok
    | _ => none
  | .mapUpdate t m k v => (opd m).bind fun m => (opd k).bind fun k => (opd v).bind fun v => match P.underlying t with
    | some (.map kt _) => (qOf P kt).map fun q => .mu q m k v
    | _ => none
  | .insert t m k v => (opd m).bind fun m => (opd k).bind fun k => (opd v).bind fun v => match P.underlying t with
    | some (.map kt _) => (qOf P kt).map fun q => .mu q m k v
    | _ => none
  | .typeAssert x _ t ok => match P.underlying t with
    | some (.interface _) => none
    | some _ => (opd x).bind fun x => (zeroV P t).map fun z => .ta t z x ok
    | none => none
  | .extract x i => (opd x).map fun x => .ex x i
  | .call c => compCall P c
  | .panic x => (opd x).map .pa
  | .defer c => match c.callee with
    | .value f => (opd f).bind fun f => (opds c.args.toList).map fun l => .df f l
    | _ => none
  | _ => none

/-- An operation's guard: the slot that is asked, and what it has to be. -/
def compGuard (ops : Array Go.Oper) (o : Go.Oper) : Option (Option (Nat × Bool)) :=
  match o.guard with
  | none => some none
  | some (j, w) => (ops[j]?).bind fun p => p.dst.map fun t => some (t, w)

def compOper (P : Program) (N : Nat) (ops : Array Go.Oper) (o : Go.Oper) : Option POper :=
  if o.dst.all (· < N) then (compGuard ops o).map fun g => .mk o.dst ((compOp P o.op).getD .no) g else none

def compOpers (P : Program) (N : Nat) (ops : Array Go.Oper) : List Go.Oper → Option (List POper)
  | [] => some []
  | o :: r => (compOper P N ops o).bind fun x => (compOpers P N ops r).map fun l => x :: l

/-- Two of some operations: do they meet in slots; may they meet in memory? -/
def meetAt (ps : List POper) (i j : Nat) : Bool :=
  match ps[i]?, ps[j]? with
  | some a, some b => slotsMeet a b
  | _, _ => true
def memAt (ps : List POper) (i j : Nat) : Bool :=
  match ps[i]?, ps[j]? with
  | some a, some b => a.o.cls + b.o.cls ≥ 3
  | _, _ => true

/-- Of some operations, the first of which lies at 'lo': the pairs of open order. None: two of them meet in a slot. -/
def pairsOf (ps : List POper) (bef : Array Nat) (lo : Nat) : Option (List (Nat × Nat)) :=
  let prs := (List.range ps.length).flatMap fun j => ((List.range j).filter fun i => !(bef.getD (lo + j) 0).testBit (lo + i)).map fun i => (i, j)
  if prs.all fun p => !meetAt ps p.1 p.2 then some (prs.filter fun p => memAt ps p.1 p.2) else none

/-- Does every operation wait for earlier ones alone? -/
def edgesOk (ops : Array Go.Oper) : Bool :=
  (List.range ops.size).all fun i => match ops[i]? with | some o => o.after.toList.all fun e => !Go.Region.binds .any e || decide (e.on < i) | none => true

/-- Is everything ahead of j done before j, and everything behind it after it? -/
def isJoint (bef : Array Nat) (n j : Nat) : Bool :=
  ((List.range j).all fun i => (bef.getD j 0).testBit i) && ((List.range' (j + 1) (n - (j + 1))).all fun i => (bef.getD i 0).testBit j)

/-- The pieces of a region of open order: 'lo' is where the piece under way began. -/
def segsOf (P : Program) (N : Nat) (ops : Array Go.Oper) (bef : Array Nat) : (todo : List Nat) → (lo : Nat) → Option (List Seg)
  | [], lo =>
    if lo = ops.size then some [] else
    (compOpers P N ops ((ops.toList.drop lo).take (ops.size - lo))).bind fun l => (pairsOf l bef lo).map fun ps => [.any l ps]
  | j :: r, lo =>
    if isJoint bef ops.size j then
      (compOpers P N ops ((ops.toList.drop j).take 1)).bind fun one => (segsOf P N ops bef r (j + 1)).bind fun rest =>
        if lo = j then some (.seq one :: rest) else
        (compOpers P N ops ((ops.toList.drop lo).take (j - lo))).bind fun l => (pairsOf l bef lo).map fun ps => .any l ps :: .seq one :: rest
    else segsOf P N ops bef r lo

def comp (P : Program) (N : Nat) : Go.Code → Option PCode
  | .skip => some .skip
  | .region _ ops draw =>
    if draw then (if edgesOk ops then (segsOf P N ops (Go.Region.before ops) (List.range ops.size) 0).map .reg else none)
    else (compOpers P N ops ops.toList).map fun l => .reg [.seq l]
  | .seq a b => (comp P N a).bind fun a => (comp P N b).map fun b => .seq a b
  | .cond c a b => (opd c).bind fun c => (comp P N a).bind fun a => (comp P N b).map fun b => .cond c a b
  | .block id c => (comp P N c).map fun c => .block id c
  | .loop c => (comp P N c).map .loop
  | .rangeFunc f ps a b => if ps.toList.all (· < N) then (opd f).bind fun f => (comp P N a).bind fun a => (comp P N b).map fun b => .rf f ps.toList a b else none
  | .exit id => some (.exit id)
  | .scope c => (comp P N c).map .scope
  | .ret => some .ret
  | _ => none

def compR (P : Program) : List Go.ResultVar → Option (List RVar)
  | [] => some []
  | .tmp t :: r => (compR P r).map fun l => .t t :: l
  | .cell a t :: r => (aggOf P t).bind fun g => (sizeIn P t).bind fun n => (compR P r).map fun l => .c a g n :: l

def compF (P : Program) (f : Go.Func) : Option PFun :=
  f.body.bind fun c => (comp P f.ntmps c).bind fun c => (compR P f.results.toList).map fun rs => ⟨c, rs⟩

end Pi
