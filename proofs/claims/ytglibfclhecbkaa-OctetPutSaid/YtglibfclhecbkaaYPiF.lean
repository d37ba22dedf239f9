/- The run of code: what is claimed of it. -/
import Derived.Test.YtglibfclhecbkaaYPiE
set_option linter.unusedSimpArgs false
namespace Pi
open Go (IntKind TypeId FuncId Fn BinOp UnOp LoopState Value Addr World Program undef Operand Sem Result Frame Item step lone Steps step_lone_go stepG)

/-- What is known grows. -/
structure GE (g g' : G) : Prop where
  rho : RhoE g.rho g'.rho
  ro : RoE g.ro g'.ro
  keep : RoE g.keep g'.keep
  new : ∀ b o, g'.ro b = some o → g.ro b = some o ∨ g.keep b = none

theorem GE.refl (g : G) : GE g g := ⟨RhoE.refl _, RoE.refl _, RoE.refl _, fun _ _ h => .inl h⟩
theorem GE.trans {a b c : G} (h : GE a b) (k : GE b c) : GE a c := by
  refine ⟨h.rho.trans k.rho, h.ro.trans k.ro, h.keep.trans k.keep, fun bl o e => ?_⟩
  rcases k.new bl o e with h1 | h1
  · exact h.new bl o h1
  · right
    cases hk : a.keep bl with
    | none => rfl
    | some q => rw [h.keep _ _ hk] at h1; cases h1
theorem GE.ofRho {g : G} {h : Rho} (e : RhoE g.rho h) : GE g { g with rho := h } := ⟨e, RoE.refl _, RoE.refl _, fun _ _ h => .inl h⟩

theorem VR.up {g g' : G} (h : GE g g') {x : V} {v : Value} (r : VR g.ro x g.rho v) : VR g'.ro x g'.rho v := VR.mono h.ro x h.rho r
theorem PR.up {g g' : G} (h : GE g g') {x : List V} {v : List Value} (r : PR g.ro x g.rho v) : PR g'.ro x g'.rho v := PR.mono h.ro x h.rho r
theorem ER.up {g g' : G} (h : GE g g') {e : Env} {tm : Array Value} (r : ER g e tm) : ER g' e tm := r.mono h.rho h.ro

def DR (g : G) : D → Go.Deferred → Prop
  | .mark l, d => ∃ r n, g.rho l = some (r, n) ∧ d = { target := .collected r, args := #[] }
  | .call f args, d => ∃ fn a c cap as, f = .fn (.func fn) a c ∧ d = { target := .fn (.func fn) cap, args := as } ∧
      c.length = cap.size ∧ PR g.ro c g.rho cap.toList ∧ (a ++ args).length = as.size ∧ PR g.ro (a ++ args) g.rho as.toList

def DL (g : G) : List D → List Go.Deferred → Prop
  | [], [] => True
  | d :: ds, e :: es => DR g d e ∧ DL g ds es
  | _, _ => False

theorem DR.up {g g' : G} (h : GE g g') {d : D} {e : Go.Deferred} (r : DR g d e) : DR g' d e := by
  cases d with
  | mark l => obtain ⟨a, n, h1, h2⟩ := r; exact ⟨a, n, h.rho _ _ h1, h2⟩
  | call f args => obtain ⟨fn, a, c, cap, as, h1, h2, h3, h4, h5, h6⟩ := r; exact ⟨fn, a, c, cap, as, h1, h2, h3, h4.up h, h5, h6.up h⟩
theorem DL.up {g g' : G} (h : GE g g') : ∀ {d : List D} {e : List Go.Deferred}, DL g d e → DL g' d e
  | [], [], _ => trivial
  | _ :: _, _ :: _, r => ⟨r.1.up h, DL.up h r.2⟩
  | [], _ :: _, r => r.elim
  | _ :: _, [], r => r.elim

/-- What 'recover' would tell, and who it asks. -/
def RecOK (g : G) (b : B) (rv : Option V) (cs : List Frame) : Prop :=
  ∀ v, rv = some v → b.kd = .deferred ∧ b.ro = none ∧ ∃ c rest, cs = c :: rest ∧
    ((∃ v', c.mode = .panicking [{ v := v', recovered := false }] ∧ VR g.ro v g.rho v') ∨ (v = .ni ∧ c.mode = .returning))

theorem RecOK.up {g g' : G} (h : GE g g') {b : B} {rv : Option V} {cs : List Frame} (r : RecOK g b rv cs) : RecOK g' b rv cs := by
  intro v hv
  obtain ⟨h1, h2, c, rest, h3, h4⟩ := r v hv
  refine ⟨h1, h2, c, rest, h3, ?_⟩
  rcases h4 with ⟨v', h5, h6⟩ | h4
  · exact .inl ⟨v', h5, h6.up h⟩
  · exact .inr h4

/-- The callers, where the first one's panic has been recovered. -/
def recovered : List Frame → List Frame
  | c :: rest => (match c.mode with
    | .panicking (e :: o) => { c with mode := .panicking ({ e with recovered := true } :: o) }
    | _ => c) :: rest
  | [] => []

def CSR (rv : Option V) (cs : List Frame) (rv' : Option V) (cs' : List Frame) : Prop :=
  (rv' = rv ∧ cs' = cs) ∨ (∃ v, rv = some v ∧ rv' = none ∧ cs' = recovered cs)

theorem CSR.refl (rv : Option V) (cs : List Frame) : CSR rv cs rv cs := .inl ⟨rfl, rfl⟩
theorem CSR.trans {a b c : Option V} {x y z : List Frame} (h : CSR a x b y) (k : CSR b y c z) : CSR a x c z := by
  rcases h with ⟨rfl, rfl⟩ | ⟨v, h1, rfl, rfl⟩
  · exact k
  · rcases k with ⟨rfl, rfl⟩ | ⟨v', h2, _, _⟩
    · exact .inr ⟨v, h1, rfl, rfl⟩
    · cases h2

/-- In which round a frame is. -/
def RdOK (g : G) (b : B) : Option Nat → Prop
  | none => b.ro = none
  | some l => ∃ bl n, g.rho l = some (bl, n) ∧ b.ro = some bl

theorem RdOK.up {g g' : G} (h : GE g g') {b : B} {rd : Option Nat} (r : RdOK g b rd) : RdOK g' b rd := by
  cases rd with
  | none => exact r
  | some l => obtain ⟨bl, n, h1, h2⟩ := r; exact ⟨bl, n, h.rho _ _ h1, h2⟩

/-- A pure state and a frame's. -/
structure SR (P : Program) (N : Nat) (g : G) (b : B) (s : S) (tm : Array Value) (df : List Go.Deferred) (cs : List Frame) (w : World) : Prop where
  er : ER g s.e tm
  size : N ≤ tm.size
  dl : DL g s.ds df
  wr : WR P g s.m w
  fresh : ∀ l, s.x ≤ l → g.rho l = none
  rc : RecOK g b s.rv cs
  rd : RdOK g b s.rd
  fn : ∃ fn, P.funcs[b.fn]? = some fn

/-- From a state to a later one. -/
structure To (P : Program) (N : Nat) (b : B) (g : G) (s : S) (cs : List Frame) (w : World) (g' : G) (s' : S) (tm' : Array Value) (df' : List Go.Deferred) (cs' : List Frame) (w' : World) : Prop where
  ge : GE g g'
  sr : SR P N g' b s' tm' df' cs' w'
  wb : WB w w'
  cr : CSR s.rv cs s'.rv cs'
  rd : s'.rd = s.rd

theorem To.trans {P : Program} {N : Nat} {b : B} {g g1 g2 : G} {s s1 s2 : S} {cs cs1 cs2 : List Frame} {w w1 w2 : World} {tm1 tm2 : Array Value} {df1 df2 : List Go.Deferred}
    (h : To P N b g s cs w g1 s1 tm1 df1 cs1 w1) (k : To P N b g1 s1 cs1 w1 g2 s2 tm2 df2 cs2 w2) : To P N b g s cs w g2 s2 tm2 df2 cs2 w2 :=
  ⟨h.ge.trans k.ge, k.sr, h.wb.trans k.wb, h.cr.trans k.cr, k.rd.trans h.rd⟩

/-- Where the machine stands, by how code ends. -/
def Lands (P : Program) (g : G) (b : B) (k : List Item) (m : Go.Machine) : X → Array Value → List Go.Deferred → List Frame → World → Prop
  | .nor, tm, df, cs, w => Steps P m (lone (b.at tm df k) cs w)
  | .exit id, tm, df, cs, w => ∃ k2, Go.exitTo id k2 = Go.exitTo id k ∧ Steps P m (lone (b.at tm df (.code (.exit id) :: k2)) cs w)
  | .ret, tm, df, cs, w => ∃ k2, Steps P m (lone (b.at tm df (.code .ret :: k2)) cs w)
  | .pan v, tm, df, cs, w => ∃ v' k2, VR g.ro v g.rho v' ∧ Steps P m (lone { b.at tm df k2 with mode := .panicking [{ v := v', recovered := false }] } cs w)

theorem Lands.steps {P : Program} {g : G} {b : B} {k : List Item} {m m' : Go.Machine} (h : Steps P m m') {x : X} {tm : Array Value} {df : List Go.Deferred} {cs : List Frame} {w : World} (l : Lands P g b k m' x tm df cs w) : Lands P g b k m x tm df cs w := by
  cases x with
  | nor => exact h.trans l
  | exit id => obtain ⟨k2, h1, h2⟩ := l; exact ⟨k2, h1, h.trans h2⟩
  | ret => obtain ⟨k2, h2⟩ := l; exact ⟨k2, h.trans h2⟩
  | pan v => obtain ⟨v', k2, h1, h2⟩ := l; exact ⟨v', k2, h1, h.trans h2⟩

/-- An item more ahead of what stands. -/
theorem Lands.pass {P : Program} {g : G} {b : B} {k : List Item} {i : Item} {m : Go.Machine} (hi : ∀ id, i ≠ .inBlock id) {x : X} (hx : x ≠ .nor) {tm : Array Value} {df : List Go.Deferred} {cs : List Frame} {w : World} (l : Lands P g b (i :: k) m x tm df cs w) : Lands P g b k m x tm df cs w := by
  cases x with
  | nor => exact absurd rfl hx
  | exit id =>
    obtain ⟨k2, h1, h2⟩ := l
    refine ⟨k2, h1.trans ?_, h2⟩
    cases i <;> first | rfl | exact absurd rfl (hi _)
  | ret => exact l
  | pan v => exact l

def frameOf (P : Program) : Go.Next → Frame
  | .enter f args => Frame.enter P f args .normal
  | .round l f tm as bd => Frame.round l f tm as bd .normal
  | _ => default

def isFrame : Go.Next → Prop
  | .enter _ _ => True
  | .round _ _ _ _ _ => True
  | _ => False

/-- How a call is left: a value or a panic is handed to the caller. -/
def Handed (P : Program) (g : G) (m : Go.Machine) (fr : Frame) (cs : List Frame) (w : World) : CR → Prop
  | .ret v => ∃ v', VR g.ro v g.rho v' ∧ Steps P m (lone (fr.finish v') cs w)
  | .pan v => ∃ v', VR g.ro v g.rho v' ∧ Steps P m (lone (fr.raise [{ v := v', recovered := false }]) cs w)

def callM (f : Value) (args : Array Value) : Sem Go.Next := do let d ← Go.Deferred.ofValue f args; Go.invoke d.target d.args

/-- A function whose contract is proved by hand. -/
def PrimOK (P : Program) (f : Nat) (h : List V → Sto → Nat → Option (V × Ws)) : Prop :=
  (∃ fn, P.funcs[f]? = some fn ∧ fn.name ≠ "runtime.NumGoroutine" ∧ fn.body.isSome) ∧
  (∀ {as m x v ws}, h as m x = some (v, ws) → (∀ m', (∀ l ∈ as.flatMap refOf, m' l = m l) → h as m' x = some (v, ws)) ∧ (∀ p ∈ ws, p.1 = x ∨ p.1 ∈ as.flatMap refOf)) ∧
  ∀ {as m x v ws g w} {args : Array Value}, h as m x = some (v, ws) → PR g.ro as g.rho args.toList → as.length = args.size → WR P g m w → g.rho x = none → m x = none →
    ∀ fr cs, ∃ v' w' h', RhoE g.rho h' ∧ (∀ l, l ≠ x → h' l = g.rho l) ∧ VR g.ro v h' v' ∧ WR P { g with rho := h' } (m.app ws) w' ∧ WB w w' ∧
      Steps P (lone (Frame.enter P f args .normal) (fr :: cs) w) (lone (fr.finish v') cs w')

structure Lnk (P : Program) (C : Ctx) : Prop where
  fns : ∀ f F, C.fns f = some F → ∃ fn, P.funcs[f]? = some fn ∧ compF P fn = some F ∧ fn.name ≠ "runtime.NumGoroutine"
  prim : ∀ f h, C.prim f = some h → PrimOK P f h
  mixed : P.follows .mixedOrders = true

def ExecS (P : Program) (C : Ctx) (n : Nat) : Prop :=
  ∀ {N : Nat} {c : Go.Code} {pc : PCode} {s s' : S} {x : X}, comp P N c = some pc → exec C n pc s = some (x, s') →
    ∀ {b : B} {tm : Array Value} {df : List Go.Deferred} {cs : List Frame} {w : World} {g : G} (k : List Item), SR P N g b s tm df cs w →
      ∃ g' tm' df' cs' w', To P N b g s cs w g' s' tm' df' cs' w' ∧ Lands P g' b k (lone (b.at tm df (.code c :: k)) cs w) x tm' df' cs' w'

/-- What compiles to what, by places. -/
def OpsR (P : Program) (N : Nat) (ops : Array Go.Oper) : List Nat → List POper → Prop
  | [], [] => True
  | i :: is, p :: ps => (∃ o, ops[i]? = some o ∧ compOper P N ops o = some p) ∧ OpsR P N ops is ps
  | _, _ => False

def OpsS (P : Program) (C : Ctx) (n : Nat) : Prop :=
  ∀ {N : Nat} {ops : Array Go.Oper} {is : List Nat} {ps : List POper} {s s' : S} {x : X}, OpsR P N ops is ps → runOps C n ps s = some (x, s') →
    ∀ {b : B} {tm : Array Value} {df : List Go.Deferred} {cs : List Frame} {w : World} {g : G} (rest : List Nat) (k : List Item), SR P N g b s tm df cs w →
      ∃ g' tm' df' cs' w', To P N b g s cs w g' s' tm' df' cs' w' ∧ Lands P g' b (.inRegion ops rest :: k) (lone (b.at tm df (.inRegion ops (is ++ rest) :: k)) cs w) x tm' df' cs' w' ∧ (∀ id, x ≠ .exit id) ∧ x ≠ .ret

/-- A piece of open order, in any order that its edges allow. -/
def AnyS (P : Program) (C : Ctx) (n : Nat) : Prop :=
  ∀ {N : Nat} {ops : Array Go.Oper} {lo : Nat} {ps : List POper} {prs : List (Nat × Nat)} {s s' : S} {ts : List (List Nat)} (sch : List Nat),
    pairsOf ps (Go.Region.before ops) lo = some prs → OpsR P N ops (List.range' lo ps.length) ps → runAny C n ps s [] = some (s', ts) → apartAll ts prs = true →
    sch.Perm (List.range' lo ps.length) → sch.Pairwise (fun i j => ((Go.Region.before ops).getD i 0).testBit j = false) →
    ∀ {b : B} {tm : Array Value} {df : List Go.Deferred} {cs : List Frame} {w : World} {g : G} (rest : List Nat) (k : List Item), SR P N g b s tm df cs w →
      ∃ g' tm' df' cs' w', To P N b g s cs w g' s' tm' df' cs' w' ∧ Steps P (lone (b.at tm df (.inRegion ops (sch ++ rest) :: k)) cs w) (lone (b.at tm' df' (.inRegion ops rest :: k)) cs' w')

def SegsS (P : Program) (C : Ctx) (n : Nat) : Prop :=
  ∀ {N : Nat} {id : Nat} {ops : Array Go.Oper} {draw : Bool} {segs : List Seg} {s s' : S} {x : X}, comp P N (.region id ops draw) = some (.reg segs) → runSegs C n segs s = some (x, s') →
    ∀ {b : B} {tm : Array Value} {df : List Go.Deferred} {cs : List Frame} {w : World} {g : G} (k : List Item), SR P N g b s tm df cs w →
      ∃ g' tm' df' cs' w', To P N b g s cs w g' s' tm' df' cs' w' ∧ Lands P g' b k (lone (b.at tm df (.code (.region id ops draw) :: k)) cs w) x tm' df' cs' w'

def CallS (P : Program) (C : Ctx) (n : Nat) : Prop :=
  ∀ {f : V} {args : List V} {m m' : Sto} {x x' : Nat} {cr : CR}, callV C n f args m x = some (cr, m', x') →
    ∀ {g : G} {w : World} {f' : Value} {args' : Array Value}, VR g.ro f g.rho f' → PR g.ro args g.rho args'.toList → args.length = args'.size → WR P g m w → (∀ l, x ≤ l → g.rho l = none) →
      ∃ nx, (callM f' args').run P w = .ok nx w ∧ isFrame nx ∧ ∀ fr cs, ∃ g' w', GE g g' ∧ WR P g' m' w' ∧ (∀ l, x' ≤ l → g'.rho l = none) ∧ WB w w' ∧
        Handed P g' (lone (frameOf P nx) (fr :: cs) w) fr cs w' cr

/-- A frame that is left. -/
def Left (P : Program) (g : G) (fr : Frame) (w : World) : CR → Prop
  | .ret v => fr.mode = .returning ∧ fr.defers = [] ∧ ∃ fn v', P.funcs[fr.fn]? = some fn ∧ (Go.results fn fr.tmps).run P w = .ok v' w ∧ VR g.ro v g.rho v'
  | .pan v => fr.defers = [] ∧ ∃ fn v', P.funcs[fr.fn]? = some fn ∧ fr.mode = .panicking [{ v := v', recovered := false }] ∧ VR g.ro v g.rho v'

def EnterS (P : Program) (C : Ctx) (n : Nat) : Prop :=
  ∀ {f : Nat} {as : List V} {m m' : Sto} {x x' : Nat} {rv rv' : Option V} {cr : CR}, enter C n f as m x rv = some (cr, m', x', rv') →
    ∀ {g : G} {w : World} {args : Array Value} {kd : Go.CallKind} {cs : List Frame}, PR g.ro as g.rho args.toList → as.length = args.size → WR P g m w → (∀ l, x ≤ l → g.rho l = none) →
      RecOK g ⟨f, kd, none⟩ rv cs →
      ∃ g' w' fr cs', GE g g' ∧ WR P g' m' w' ∧ (∀ l, x' ≤ l → g'.rho l = none) ∧ WB w w' ∧ CSR rv cs rv' cs' ∧
        Steps P (lone (Frame.enter P f args kd) cs w) (lone fr cs' w') ∧ fr.fn = f ∧ fr.kind = kd ∧ Left P g' fr w' cr

def LeaveS (P : Program) (C : Ctx) (n : Nat) : Prop :=
  ∀ {F : PFun} {s : S} {pn : Option V} {m' : Sto} {x' : Nat} {rv' : Option V} {cr : CR}, leave C n F s pn = some (cr, m', x', rv') →
    ∀ {N : Nat} {g : G} {b : B} {tm : Array Value} {df : List Go.Deferred} {k : List Item} {cs : List Frame} {w : World} {md : Go.FrameMode} {fn : Go.Func}, SR P N g b s tm df cs w →
      P.funcs[b.fn]? = some fn → compF P fn = some F → b.ro = none →
      (match pn with | none => md = .returning | some v => ∃ v', md = .panicking [{ v := v', recovered := false }] ∧ VR g.ro v g.rho v') →
      ∃ g' w' fr cs', GE g g' ∧ WR P g' m' w' ∧ (∀ l, x' ≤ l → g'.rho l = none) ∧ WB w w' ∧ CSR s.rv cs rv' cs' ∧
        Steps P (lone { b.at tm df k with mode := md } cs w) (lone fr cs' w') ∧ fr.fn = b.fn ∧ fr.kind = b.kd ∧ Left P g' fr w' cr

/-- A loop, from a round's end on. -/
def LoopS (P : Program) (C : Ctx) (n : Nat) : Prop :=
  ∀ {N : Nat} {c : Go.Code} {pc : PCode} {s s' : S} {x : X}, comp P N c = some pc → exec C n (.loop pc) s = some (x, s') →
    ∀ {b : B} {tm : Array Value} {df : List Go.Deferred} {cs : List Frame} {w : World} {g : G} (k : List Item), SR P N g b s tm df cs w →
      ∃ g' tm' df' cs' w', To P N b g s cs w g' s' tm' df' cs' w' ∧ Lands P g' b k (lone (b.at tm df (.inLoop c :: k)) cs w) x tm' df' cs' w'

structure Sound (P : Program) (C : Ctx) (n : Nat) : Prop where
  exec : ExecS P C n
  loop : LoopS P C n
  segs : SegsS P C n
  ops : OpsS P C n
  any : AnyS P C n
  call : CallS P C n
  enter : EnterS P C n
  leave : LeaveS P C n

end Pi
