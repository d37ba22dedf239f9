/- The machine's steps, for any frame: a function's, a deferred one's, a round's. -/
import Derived.Test.YtglibfclhecbkaaYPiD
import Derived.Calls
set_option linter.unusedSimpArgs false
namespace Pi
open Go (IntKind TypeId FuncId Fn BinOp UnOp LoopState Value Addr World Program undef Operand Sem Result Frame Item step lone Steps step_lone_go stepG)

/-- What of a frame stays while it runs. -/
structure B where
  fn : FuncId
  kd : Go.CallKind
  ro : Option Nat

def B.at (b : B) (tm : Array Value) (df : List Go.Deferred) (td : List Item) : Frame := { fn := b.fn, tmps := tm, todo := td, defers := df, mode := .run, kind := b.kd, roundOf := b.ro }

section
variable {P : Program} {b : B} {tm : Array Value} {df : List Go.Deferred} {k : List Item} {cs : List Frame} {w : World}

theorem s_skip : step P (lone (b.at tm df (.code .skip :: k)) cs w) = .next (lone (b.at tm df k) cs w) := step_lone_go (by simp [stepG, stepG.exec, B.at])
theorem s_inBlock {id : Nat} : step P (lone (b.at tm df (.inBlock id :: k)) cs w) = .next (lone (b.at tm df k) cs w) := step_lone_go (by simp [stepG, stepG.exec, B.at])
theorem s_inScope {c : Go.Code} : step P (lone (b.at tm df (.inScope c :: k)) cs w) = .next (lone (b.at tm df k) cs w) := step_lone_go (by simp [stepG, stepG.exec, B.at])
theorem s_seq {x y : Go.Code} : step P (lone (b.at tm df (.code (.seq x y) :: k)) cs w) = .next (lone (b.at tm df (.code x :: .code y :: k)) cs w) := step_lone_go (by simp [stepG, stepG.exec, B.at])
theorem s_cond {c : Operand} {x y : Go.Code} {t : Bool} (h : evT tm c = .bool t) :
    step P (lone (b.at tm df (.code (.cond c x y) :: k)) cs w) = .next (lone (b.at tm df (.code (if t then x else y) :: k)) cs w) :=
  step_lone_go (by
    have h' : (b.at tm df (.code (.cond c x y) :: k)).eval c = .bool t := by rw [eval_evT]; exact h
    simp only [B.at] at h'
    simp [stepG, stepG.exec, B.at, h'])
theorem s_block {id : Nat} {c : Go.Code} : step P (lone (b.at tm df (.code (.block id c) :: k)) cs w) = .next (lone (b.at tm df (.code c :: .inBlock id :: k)) cs w) := step_lone_go (by simp [stepG, stepG.exec, B.at])
theorem s_loop {c : Go.Code} : step P (lone (b.at tm df (.code (.loop c) :: k)) cs w) = .next (lone (b.at tm df (.code c :: .inLoop c :: k)) cs w) := step_lone_go (by simp [stepG, stepG.exec, B.at])
theorem s_inLoop {c : Go.Code} : step P (lone (b.at tm df (.inLoop c :: k)) cs w) = .next (lone (b.at tm df (.code c :: .inLoop c :: k)) cs w) := step_lone_go (by simp [stepG, stepG.exec, B.at])
theorem s_scope {c : Go.Code} : step P (lone (b.at tm df (.code (.scope c) :: k)) cs w) = .next (lone (b.at tm df (.code c :: .inScope c :: k)) cs w) := step_lone_go (by simp [stepG, stepG.exec, B.at])
theorem s_exit {id : Nat} {k' : List Item} (h : Go.exitTo id k = some k') : step P (lone (b.at tm df (.code (.exit id) :: k)) cs w) = .next (lone (b.at tm df k') cs w) :=
  step_lone_go (by simp [stepG, stepG.exec, B.at, h])
theorem s_region {id : Nat} {ops : Array Go.Oper} : step P (lone (b.at tm df (.code (.region id ops false) :: k)) cs w) = .next (lone (b.at tm df (.inRegion ops (List.range ops.size) :: k)) cs w) :=
  step_lone_go (by simp [stepG, stepG.exec, B.at])
theorem s_region_draw {id : Nat} {ops : Array Go.Oper} :
    step P (lone (b.at tm df (.code (.region id ops true) :: k)) cs w) =
      .next (lone (b.at tm df (.inRegion ops (Go.Region.schedule (P.follows .mixedOrders) ops (w.tape w.drawn (.order b.fn id))) :: k)) cs { w with drawn := w.drawn + 1 }) :=
  step_lone_go (by simp [stepG, stepG.exec, B.at, Go.choose, Sem.run, Go.Question.forced, Go.Question.cut])
theorem s_region_end {ops : Array Go.Oper} : step P (lone (b.at tm df (.inRegion ops [] :: k)) cs w) = .next (lone (b.at tm df k) cs w) := step_lone_go (by simp [stepG, stepG.exec, B.at])

/-- A slot written. -/
def putT (tm : Array Value) (d : Option Nat) (v : Value) : Array Value :=
  match d with
  | some t => tm.setIfInBounds t v
  | none => tm

theorem finish_at {ops : Array Go.Oper} {i : Nat} {rest : List Nat} {o : Go.Oper} (ho : ops[i]? = some o) (v : Value) :
    (b.at tm df (.inRegion ops (i :: rest) :: k)).finish v = b.at (putT tm o.dst v) df (.inRegion ops rest :: k) := by
  cases h : o.dst <;> simp [Frame.finish, B.at, putT, ho, h]

theorem s_op_skip {ops : Array Go.Oper} {i : Nat} {rest : List Nat} {o : Go.Oper} (ho : ops[i]? = some o) (hw : Go.Region.wanted o (Go.yielded ops tm) = false) :
    step P (lone (b.at tm df (.inRegion ops (i :: rest) :: k)) cs w) = .next (lone (b.at (putT tm o.dst undef) df (.inRegion ops rest :: k)) cs w) := by
  rw [← finish_at ho]
  exact step_lone_go (by
    have hw' := hw
    simp only [B.at] at *
    simp [stepG, stepG.exec, ho, hw'])

/-- An operation that is not a deferral in a round: it is carried out. -/
theorem stepG_op' {ops : Array Go.Oper} {i : Nat} {rest : List Nat} {o : Go.Oper} (ho : ops[i]? = some o) (hw : Go.Region.wanted o (Go.yielded ops tm) = true) (hd : b.ro = none ∨ ∀ c, o.op ≠ .defer c) :
    stepG P true { frame := b.at tm df (.inRegion ops (i :: rest) :: k), callers := cs, status := .running, dying := none } w =
      stepG.apply P true (b.at tm df (.inRegion ops (i :: rest) :: k)) cs none (Go.execOp (evT tm) o) w := by
  rcases hd with hd | hd
  · simp [stepG, stepG.exec, stepG.oper, Frame.oper?, B.at, ho, hw, eval_evT, hd]
  · cases hop : o.op <;> first | exact absurd hop (hd _) | (cases hro : b.ro <;> simp [stepG, stepG.exec, stepG.oper, Frame.oper?, B.at, ho, hw, eval_evT, hop, hro])

theorem s_op {ops : Array Go.Oper} {i : Nat} {rest : List Nat} {o : Go.Oper} (ho : ops[i]? = some o) (hw : Go.Region.wanted o (Go.yielded ops tm) = true) (hd : b.ro = none ∨ ∀ c, o.op ≠ .defer c)
    {v : Value} {w' : World} (hr : (Go.execOp (evT tm) o).run P w = .ok (.value v) w' ∨ ((Go.execOp (evT tm) o).run P w = .ok .skip w' ∧ v = undef)) :
    step P (lone (b.at tm df (.inRegion ops (i :: rest) :: k)) cs w) = .next (lone (b.at (putT tm o.dst v) df (.inRegion ops rest :: k)) cs w') := by
  rw [← finish_at ho]
  refine step_lone_go ?_
  rw [stepG_op' ho hw hd]
  rcases hr with hr | ⟨hr, rfl⟩ <;> simp [stepG.apply, hr]

theorem s_op_enter {ops : Array Go.Oper} {i : Nat} {rest : List Nat} {o : Go.Oper} (ho : ops[i]? = some o) (hw : Go.Region.wanted o (Go.yielded ops tm) = true) (hd : b.ro = none ∨ ∀ c, o.op ≠ .defer c)
    {f : FuncId} {args : Array Value} {w' : World} (hr : (Go.execOp (evT tm) o).run P w = .ok (.enter f args) w') :
    step P (lone (b.at tm df (.inRegion ops (i :: rest) :: k)) cs w) = .next (lone (Frame.enter P f args .normal) (b.at tm df (.inRegion ops (i :: rest) :: k) :: cs) w') := by
  refine step_lone_go ?_
  rw [stepG_op' ho hw hd]
  simp [stepG.apply, hr, B.at]

theorem s_op_round {ops : Array Go.Oper} {i : Nat} {rest : List Nat} {o : Go.Oper} (ho : ops[i]? = some o) (hw : Go.Region.wanted o (Go.yielded ops tm) = true) (hd : b.ro = none ∨ ∀ c, o.op ≠ .defer c)
    {l : Nat} {f : FuncId} {ts : Array Value} {as bd : Go.Code} {w' : World} (hr : (Go.execOp (evT tm) o).run P w = .ok (.round l f ts as bd) w') :
    step P (lone (b.at tm df (.inRegion ops (i :: rest) :: k)) cs w) = .next (lone (Frame.round l f ts as bd .normal) (b.at tm df (.inRegion ops (i :: rest) :: k) :: cs) w') := by
  refine step_lone_go ?_
  rw [stepG_op' ho hw hd]
  simp [stepG.apply, hr, B.at]

theorem s_op_defer {ops : Array Go.Oper} {i : Nat} {rest : List Nat} {o : Go.Oper} (ho : ops[i]? = some o) (hw : Go.Region.wanted o (Go.yielded ops tm) = true) (hd : b.ro = none)
    {d : Go.Deferred} {w' : World} (hr : (Go.execOp (evT tm) o).run P w = .ok (.defer d) w') :
    step P (lone (b.at tm df (.inRegion ops (i :: rest) :: k)) cs w) = .next (lone (b.at (putT tm o.dst undef) (d :: df) (.inRegion ops rest :: k)) cs w') := by
  rw [← finish_at (b := b) (df := d :: df) ho]
  refine step_lone_go ?_
  rw [stepG_op' ho hw (.inl hd)]
  simp [stepG.apply, hr, B.at]

theorem s_op_panic {ops : Array Go.Oper} {i : Nat} {rest : List Nat} {o : Go.Oper} (ho : ops[i]? = some o) (hw : Go.Region.wanted o (Go.yielded ops tm) = true) (hd : b.ro = none ∨ ∀ c, o.op ≠ .defer c)
    {v : Value} {w' : World} (hr : (Go.execOp (evT tm) o).run P w = .halt (.panic v) w') :
    step P (lone (b.at tm df (.inRegion ops (i :: rest) :: k)) cs w) = .next (lone { b.at tm df (.inRegion ops (i :: rest) :: k) with mode := .panicking [{ v, recovered := false }] } cs w') := by
  refine step_lone_go ?_
  rw [stepG_op' ho hw hd]
  simp [stepG.apply, hr, B.at, Frame.raise]

/-! ### endings -/
theorem s_ret {k : List Item} (h : b.ro = none) : step P (lone (b.at tm df (.code .ret :: k)) cs w) = .next (lone { b.at tm df (.code .ret :: k) with mode := .returning } cs w) :=
  step_lone_go (by simp [stepG, stepG.exec, B.at, h])
theorem s_end (h : b.ro = none) : step P (lone (b.at tm df []) cs w) = .next (lone { b.at tm df [] with mode := .returning } cs w) :=
  step_lone_go (by simp [stepG, stepG.exec, B.at, h])

/-! ### a range over a function -/
theorem s_rangeFunc {f : Operand} {ps : Array Nat} {as bd : Go.Code} {l : Nat} {mk : List Go.Deferred} {w1 w2 : World} {g : FuncId} {args : Array Value}
    (hl : (Go.Instr.enterLoop b.fn tm ps as bd b.ro).run P w = .ok (l, mk) w1)
    (hc : (do let d ← Go.Deferred.ofValue (evT tm f) #[.func (.yield l) #[] #[]]; Go.invoke d.target d.args : Sem Go.Next).run P w1 = .ok (.enter g args) w2) :
    step P (lone (b.at tm df (.code (.rangeFunc f ps as bd) :: k)) cs w) = .next (lone (Frame.enter P g args .normal) (b.at tm (mk ++ df) (.inRangeFunc l :: k) :: cs) w2) :=
  step_lone_go (by
    have hc' := hc
    simp only [Sem.run_bind] at hc'
    have e1 : evT tm (.const (.func (.yield l) #[] #[])) = .func (.yield l) #[] #[] := rfl
    simp [stepG, stepG.exec, B.at, hl, stepG.apply, eval_evT, Go.resolve, e1, hc', Go.Sem.runT_eq])
theorem s_rangeFunc' {f : Operand} {ps : Array Nat} {as bd : Go.Code} {l : Nat} {mk : List Go.Deferred} {w1 w2 : World} {l' : Nat} {g : FuncId} {ts : Array Value} {as' bd' : Go.Code}
    (hl : (Go.Instr.enterLoop b.fn tm ps as bd b.ro).run P w = .ok (l, mk) w1)
    (hc : (do let d ← Go.Deferred.ofValue (evT tm f) #[.func (.yield l) #[] #[]]; Go.invoke d.target d.args : Sem Go.Next).run P w1 = .ok (.round l' g ts as' bd') w2) :
    step P (lone (b.at tm df (.code (.rangeFunc f ps as bd) :: k)) cs w) = .next (lone (Frame.round l' g ts as' bd' .normal) (b.at tm (mk ++ df) (.inRangeFunc l :: k) :: cs) w2) :=
  step_lone_go (by
    have hc' := hc
    simp only [Sem.run_bind] at hc'
    have e1 : evT tm (.const (.func (.yield l) #[] #[])) = .func (.yield l) #[] #[] := rfl
    simp [stepG, stepG.exec, B.at, hl, stepG.apply, eval_evT, Go.resolve, e1, hc', Go.Sem.runT_eq])

theorem s_endRangeFunc {l : Nat} {j : Option Go.Code} {w1 : World} (h : (Go.Instr.endLoop l).run P w = .ok j w1) :
    step P (lone (b.at tm df (.endRangeFunc l :: k)) cs w) = .next (lone (b.at tm df ((j.map Item.code).toList ++ k)) cs w1) :=
  step_lone_go (by simp [stepG, stepG.exec, B.at, h, Go.Sem.runT_eq])

theorem s_beginRound {l : Nat} (hb : b.ro = some l) {w1 : World} (h : (Go.Instr.beginRound l).run P w = .ok () w1) :
    step P (lone (b.at tm df (.beginRound :: k)) cs w) = .next (lone (b.at tm df k) cs w1) :=
  step_lone_go (by simp [stepG, stepG.exec, B.at, hb, stepG.apply, h, Frame.finish])

/-! ### a round's end -/
theorem s_endRound_nor {l : Nat} (hb : b.ro = some l) (hk : b.kd = .normal) {v : Value} {w1 : World} (h : (Go.Instr.endRound l none).run P w = .ok v w1) (c : Frame) :
    step P (lone (b.at tm df []) (c :: cs) w) = .next (lone (c.finish v) cs w1) :=
  step_lone_go (by simp [stepG, stepG.exec, B.at, hb, hk, h, Go.doReturn, Go.Sem.runT_eq])
theorem s_endRound_ret {l : Nat} (hb : b.ro = some l) (hk : b.kd = .normal) {v : Value} {w1 : World} (h : (Go.Instr.endRound l (some .ret)).run P w = .ok v w1) (c : Frame) :
    step P (lone (b.at tm df (.code .ret :: k)) (c :: cs) w) = .next (lone (c.finish v) cs w1) :=
  step_lone_go (by simp [stepG, stepG.exec, B.at, hb, hk, h, Go.doReturn, Go.Sem.runT_eq])
theorem s_endRound_exit {l id : Nat} (hb : b.ro = some l) (hk : b.kd = .normal) (he : Go.exitTo id k = none) {v : Value} {w1 : World} (h : (Go.Instr.endRound l (some (.exit id))).run P w = .ok v w1) (c : Frame) :
    step P (lone (b.at tm df (.code (.exit id) :: k)) (c :: cs) w) = .next (lone (c.finish v) cs w1) :=
  step_lone_go (by simp [stepG, stepG.exec, B.at, hb, hk, h, he, Go.doReturn, Go.Sem.runT_eq])

/-! ### a frame that is left -/
theorem s_mark {fr : Frame} (hm : fr.mode ≠ .run) {r : Nat} {ds : List Go.Deferred} {as : Array Value} (hd : fr.defers = { target := .collected r, args := as } :: ds) {w1 : World} (h : (Go.Instr.takeDeferred r).run P w = .ok [] w1) :
    step P (lone fr cs w) = .next (lone { fr with defers := ds } cs w1) := by
  refine step_lone_go ?_
  obtain ⟨fn, tm, td, df, md, kd, ro⟩ := fr
  simp only at hm hd
  subst hd
  cases md <;> first | exact absurd rfl hm | simp [stepG, Go.unwind, h, Go.Sem.runT_eq]

theorem s_deferred {fr : Frame} (hm : fr.mode ≠ .run) {f : FuncId} {cap : Array Value} {ds : List Go.Deferred} {as : Array Value} (hd : fr.defers = { target := .fn (.func f) cap, args := as } :: ds)
    {args : Array Value} {w1 : World} (h : (Go.invoke (.fn (.func f) cap) as).run P w = .ok (.enter f args) w1) :
    step P (lone fr cs w) = .next (lone (Frame.enter P f args .deferred) ({ fr with defers := ds } :: cs) w1) := by
  refine step_lone_go ?_
  obtain ⟨fn, tm, td, df, md, kd, ro⟩ := fr
  simp only at hm hd
  subst hd
  cases md <;> first | exact absurd rfl hm | simp [stepG, Go.unwind, Go.callDeferred, h, Go.Sem.runT_eq]

theorem s_return {fr : Frame} (hm : fr.mode = .returning) (hd : fr.defers = []) (hk : fr.kind = .normal) {fn : Go.Func} (hf : P.funcs[fr.fn]? = some fn) {v : Value} (hr : (Go.results fn fr.tmps).run P w = .ok v w) (c : Frame) :
    step P (lone fr (c :: cs) w) = .next (lone (c.finish v) cs w) := by
  refine step_lone_go ?_
  simp [stepG, Go.unwind, hm, hd, hf, hr, Go.doReturn, hk, Go.Sem.runT_eq]

theorem s_return_deferred {fr : Frame} (hm : fr.mode = .returning) (hd : fr.defers = []) (hk : fr.kind = .deferred) {fn : Go.Func} (hf : P.funcs[fr.fn]? = some fn) {v : Value} (hr : (Go.results fn fr.tmps).run P w = .ok v w) (c : Frame) :
    step P (lone fr (c :: cs) w) = .next (lone (match c.mode with
        | .panicking ({ recovered := true, .. } :: older) =>
          match older.dropWhile (!·.goexit) with
          | [] => { c with mode := .returning }
          | rest => { c with mode := .panicking rest }
        | _ => c) cs w) := by
  refine step_lone_go ?_
  simp [stepG, Go.unwind, hm, hd, hf, hr, Go.doReturn, hk, Go.Sem.runT_eq]
  rfl

theorem s_raise {fr : Frame} {chain : List Go.PanicEntry} (hm : fr.mode = .panicking chain) (hd : fr.defers = []) {fn : Go.Func} (hf : P.funcs[fr.fn]? = some fn) (c : Frame) :
    step P (lone fr (c :: cs) w) = .next (lone (c.raise chain) cs w) := by
  refine step_lone_go ?_
  simp [stepG, Go.unwind, hm, hd, Frame.catches, hf]

theorem s_recover {ops : Array Go.Oper} {i : Nat} {rest : List Nat} {o : Go.Oper} (ho : ops[i]? = some o) (hw : Go.Region.wanted o (Go.yielded ops tm) = true) (hd : ∀ c, o.op ≠ .defer c) (hro : b.ro = none)
    {w' : World} (hr : (Go.execOp (evT tm) o).run P w = .ok .recover w') :
    step P (lone (b.at tm df (.inRegion ops (i :: rest) :: k)) cs w) =
      (match Go.tryRecover (b.at tm df (.inRegion ops (i :: rest) :: k)) cs with
        | some (v, cs') => .next (lone (b.at (putT tm o.dst v) df (.inRegion ops rest :: k)) cs' w')
        | none => .next (lone (b.at (putT tm o.dst .nilIface) df (.inRegion ops rest :: k)) cs w')) := by
  cases hrec : Go.tryRecover (b.at tm df (.inRegion ops (i :: rest) :: k)) cs with
  | none =>
    simp only
    rw [← finish_at ho]
    refine step_lone_go ?_
    rw [stepG_op' ho hw (.inr hd)]
    have hro' : (b.at tm df (.inRegion ops (i :: rest) :: k)).roundOf = none := hro
    simp [stepG.apply, hr, hro', hrec]
  | some p =>
    obtain ⟨v, cs'⟩ := p
    simp only
    rw [← finish_at ho]
    refine step_lone_go ?_
    rw [stepG_op' ho hw (.inr hd)]
    have hro' : (b.at tm df (.inRegion ops (i :: rest) :: k)).roundOf = none := hro
    simp [stepG.apply, hr, hro', hrec]

end
end Pi
