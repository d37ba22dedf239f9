/- A value-level interpreter of the compiled code, its soundness and its rules, part 4. -/
import Derived.Test.YtglabbjideniaaaGreatFw3
import Derived.Laws.Strings
set_option linter.unusedSimpArgs false
set_option linter.unusedVariables false
/- Rules for proofs, as simp reads them: what a run comes to, from a state that is written out. -/
namespace Pi
open Go (IntKind TypeId FuncId Fn BinOp UnOp LoopState)

def AnsK (C : Ctx) (g : Nat) (vs : List V) (P : V → Prop) : Prop := ∃ w, Ans C g vs w ∧ P w

/-- A function answers one thing. -/
theorem Ans.one {C : Ctx} {g : Nat} {vs : List V} {w w' : V} (h : Ans C g vs w) (h' : Ans C g vs w') : w = w' := by
  obtain ⟨v, m, x, rv, ids, h1, h2⟩ := h
  obtain ⟨v', m', x', rv', ids', h3, h4⟩ := h'
  have := Ev.one h1 h3
  simp only [Prod.mk.injEq, CR.ret.injEq] at this
  obtain ⟨rfl, rfl, rfl, rfl⟩ := this
  rw [h2] at h4
  simp only [Option.some.injEq, Prod.mk.injEq] at h4
  exact h4.1

theorem ansK {C : Ctx} {g : Nat} {vs : List V} {w : V} (h : Ans C g vs w) {P : V → Prop} : AnsK C g vs P = P w := by
  apply propext
  constructor
  · rintro ⟨w', h1, h2⟩
    rw [Ans.one h h1]
    exact h2
  · intro h1
    exact ⟨w, h, h1⟩

/-- The store behind a closed call that looked into some things. -/
def aft (w : V) (m : Sto) (ids : List Nat) : Sto := if w.scal then m else markRo m ids
def roB (c : Bool) : Option PObj → Option PObj
  | some (.cells cs ro) => some (.cells cs (ro || !c))
  | some (.map ks vs ro) => some (.map ks vs (ro || !c))
  | some (.lit cs) => if c then some (.lit cs) else some (.cells cs true)
  | o => o
@[simp] theorem roB_cells (c : Bool) (cs : List V) (ro : Bool) : roB c (some (.cells cs ro)) = some (.cells cs (ro || !c)) := (rfl)
@[simp ↓] theorem aft_nil (w : V) (m : Sto) : aft w m [] = m := by unfold aft; split <;> rfl
@[simp ↓] theorem aft_b (c : Bool) (m : Sto) (ids : List Nat) : aft (.b c) m ids = m := by
  have h : (V.b c).scal = true := rfl
  unfold aft
  rw [if_pos h]
@[simp ↓] theorem aft_i (k : IntKind) (n : Int) (m : Sto) (ids : List Nat) : aft (.i k n) m ids = m := by
  have h : (V.i k n).scal = true := rfl
  unfold aft
  rw [if_pos h]
@[simp ↓ low] theorem aft_cons (w : V) (m : Sto) (l : Nat) (r : List Nat) : aft w m (l :: r) = aft w (m.set l (roB w.scal (m l))) r := by
  unfold aft
  cases hw : w.scal with
  | true =>
    simp only [if_true]
    funext j
    unfold Sto.set
    split
    · rename_i h; subst h
      cases m j with
      | none => rfl
      | some o => cases o <;> simp [roB]
    · rfl
  | false =>
    simp only [Bool.false_eq_true, if_false, markRo]
    congr 2
    cases m l with
    | none => rfl
    | some o => cases o <;> simp [roB]

def FrK (o : Option (List V × List Nat)) (k : List V → List Nat → Prop) (z : Prop) : Prop :=
  match o with
  | some a => k a.1 a.2
  | none => z
@[simp ↓] theorem FrK_some (a : List V × List Nat) (k : List V → List Nat → Prop) (z : Prop) : FrK (some a) k z = k a.1 a.2 := (rfl)
def RetW (K : CR → Sto → Nat → Prop) (m : Sto) (ids : List Nat) (x : Nat) (w : V) : Prop := K (.ret w) (aft w m ids) x
@[simp ↓] theorem RetW_eq (K : CR → Sto → Nat → Prop) (m : Sto) (ids : List Nat) (x : Nat) (w : V) : RetW K m ids x w = K (.ret w) (aft w m ids) x := (rfl)
def clK (C : Ctx) (g : Nat) (K : CR → Sto → Nat → Prop) (m : Sto) (x : Nat) (a : List V) (ids : List Nat) : Prop := AnsK C g a (RetW K m ids x)
@[simp ↓] theorem clK_eq (C : Ctx) (g : Nat) (K : CR → Sto → Nat → Prop) (m : Sto) (x : Nat) (a : List V) (ids : List Nat) : clK C g K m x a ids = AnsK C g a (RetW K m ids x) := (rfl)
/-- What a closed call of open order writes. -/
def wIds (w : V) (ids : List Nat) : List Nat := if w.scal then [] else ids
@[simp ↓] theorem fst_mkWs (w : V) (m : Sto) (ids : List Nat) : (mkWs w m ids).map Prod.fst = wIds w ids := by
  unfold mkWs wIds
  split
  · rfl
  · rw [List.map_map]
    conv => rhs; rw [← List.map_id ids]
    rfl
@[simp ↓] theorem app_mk (w : V) (m : Sto) (ids : List Nat) : m.app (mkWs w m ids) = aft w m ids := app_mkWs w m ids
@[simp ↓] theorem wIds_nil (w : V) : wIds w [] = [] := by unfold wIds; split <;> rfl
@[simp ↓] theorem wIds_i (k : IntKind) (n : Int) (ids : List Nat) : wIds (.i k n) ids = [] := (rfl)
def RetQ (K : QR → Prop) (m : Sto) (ids : List Nat) (x : Nat) (w : V) : Prop := K ⟨w, mkWs w m ids, ids, x, false⟩
@[simp ↓] theorem RetQ_eq (K : QR → Prop) (m : Sto) (ids : List Nat) (x : Nat) (w : V) : RetQ K m ids x w = K ⟨w, mkWs w m ids, ids, x, false⟩ := (rfl)
def cqK (C : Ctx) (g : Nat) (K : QR → Prop) (m : Sto) (x : Nat) (a : List V) (ids : List Nat) : Prop := AnsK C g a (RetQ K m ids x)
@[simp ↓] theorem cqK_eq (C : Ctx) (g : Nat) (K : QR → Prop) (m : Sto) (x : Nat) (a : List V) (ids : List Nat) : cqK C g K m x a ids = AnsK C g a (RetQ K m ids x) := (rfl)

/-- A call: closed, where it can be. -/
def CallX (C : Ctx) (f : V) (args : List V) (m : Sto) (x : Nat) (K : CR → Sto → Nat → Prop) : Prop :=
  match f with
  | .fn (.func g) first cap =>
    if C.prim g = none ∧ C.opn g = false ∧ C.frz g = false then
      FrK (freezeL m (first ++ args ++ cap)) (clK C g K m x) (wpCall C f args m x K)
    else wpCall C f args m x K
  | f => wpCall C f args m x K

theorem callX_ok {C : Ctx} {f : V} {args : List V} {m : Sto} {x : Nat} {K : CR → Sto → Nat → Prop} (h : CallX C f args m x K) : wpCall C f args m x K := by
  unfold CallX at h
  split at h
  · rename_i g first cap
    split at h
    · rename_i hc
      cases hz : freezeL m (first ++ args ++ cap) with
      | none => rw [hz] at h; exact h
      | some a =>
        rw [hz] at h
        obtain ⟨w, h1, h2⟩ := h
        rw [wpCall_closed hc.1 hc.2.1 hc.2.2 hz h1]
        exact h2
    · exact h
  · exact h

theorem orF {a b : Bool} (h : (a || b) = false) : a = false ∧ b = false := by simpa using h
theorem CallX_cl {C : Ctx} {g : Nat} {first cap args : List V} {m : Sto} {x : Nat} {K : CR → Sto → Nat → Prop} (hp : C.prim g = none) (ho : C.opn g = false) (hq : C.frz g = false := by rfl) :
    CallX C (.fn (.func g) first cap) args m x K = FrK (freezeL m (first ++ args ++ cap)) (clK C g K m x) (wpCall C (.fn (.func g) first cap) args m x K) := by
  unfold CallX
  simp [hp, ho, hq]
def AnsFK (C : Ctx) (g : Nat) (vs : List V) (P : (Nat → V) → Option (List V) → Prop) : Prop := ∃ u cs, AnsF C g vs u cs ∧ P u cs
theorem ansFK {C : Ctx} {g : Nat} {vs : List V} {u : Nat → V} {cs : Option (List V)} (h : AnsF C g vs u cs) {P : (Nat → V) → Option (List V) → Prop} (hp : P u cs) : AnsFK C g vs P := ⟨u, cs, h, hp⟩
def cfK (C : Ctx) (g : Nat) (K : CR → Sto → Nat → Prop) (m : Sto) (x : Nat) (a : List V) (_ : List Nat) : Prop := AnsFK C g a fun u cs => K (.ret (u x)) (fM m x cs) (fX x cs)
@[simp ↓] theorem cfK_eq (C : Ctx) (g : Nat) (K : CR → Sto → Nat → Prop) (m : Sto) (x : Nat) (a : List V) (ids : List Nat) : cfK C g K m x a ids = AnsFK C g a fun u cs => K (.ret (u x)) (fM m x cs) (fX x cs) := (rfl)
@[simp] theorem fM_some (m : Sto) (x : Nat) (cs : List V) : fM m x (some cs) = m.set x (some (.cells cs false)) := (rfl)
@[simp] theorem fX_some (x : Nat) (cs : List V) : fX x (some cs) = x + 1 := (rfl)
/-- A closed call that makes what it answers anew. -/
theorem CallX_fr {C : Ctx} {g : Nat} {first cap args : List V} {m : Sto} {x : Nat} {K : CR → Sto → Nat → Prop} (hp : C.prim g = none) (ho : C.opn g = false) (hq : C.frz g = true)
    (h : FrK (freezeL m (first ++ args ++ cap)) (cfK C g K m x) False) : CallX C (.fn (.func g) first cap) args m x K := by
  unfold CallX
  simp only [hp, ho, hq, Bool.true_eq_false, and_false, if_false]
  cases hz : freezeL m (first ++ args ++ cap) with
  | none => rw [hz] at h; exact h.elim
  | some a =>
    rw [hz] at h
    obtain ⟨u, cs, h1, h2⟩ := h
    rw [wpCall_fresh hp ho hq hz h1]
    exact h2
@[simp] theorem CallX_op {C : Ctx} {g : Nat} {first cap args : List V} {m : Sto} {x : Nat} {K : CR → Sto → Nat → Prop} (ho : C.opn g = true) :
    CallX C (.fn (.func g) first cap) args m x K = wpCall C (.fn (.func g) first cap) args m x K := by
  unfold CallX
  simp [ho]
@[simp] theorem CallX_y {C : Ctx} {l : Nat} {first cap args : List V} {m : Sto} {x : Nat} {K : CR → Sto → Nat → Prop} :
    CallX C (.fn (.yield l) first cap) args m x K = wpCall C (.fn (.yield l) first cap) args m x K := rfl

/-- A call in a region of open order. -/
def CallQ (C : Ctx) (f : V) (args : List V) (m : Sto) (x : Nat) (K : QR → Prop) : Prop :=
  match f with
  | .fn (.func g) first cap =>
    if C.prim g = none ∧ C.opn g = false then
      FrK (freezeL m (first ++ args ++ cap)) (cqK C g K m x) (wpQuiet C f args m x K)
    else wpQuiet C f args m x K
  | f => wpQuiet C f args m x K

theorem callQ_ok {C : Ctx} {f : V} {args : List V} {m : Sto} {x : Nat} {K : QR → Prop} (h : CallQ C f args m x K) : wpQuiet C f args m x K := by
  unfold CallQ at h
  split at h
  · rename_i g first cap
    split at h
    · rename_i hc
      cases hz : freezeL m (first ++ args ++ cap) with
      | none => rw [hz] at h; exact h
      | some a =>
        rw [hz] at h
        obtain ⟨w, h1, h3⟩ := h
        rw [wpQuiet_closed hc.1 hc.2 hz h1]
        exact h3
    · exact h
  · exact h
theorem CallQ_cl {C : Ctx} {g : Nat} {first cap args : List V} {m : Sto} {x : Nat} {K : QR → Prop} (hp : C.prim g = none) (ho : C.opn g = false) :
    CallQ C (.fn (.func g) first cap) args m x K = FrK (freezeL m (first ++ args ++ cap)) (cqK C g K m x) (wpQuiet C (.fn (.func g) first cap) args m x K) := by
  unfold CallQ
  simp [hp, ho]

def putE (e : Env) (d : Option Nat) (v : V) : Env := match d with | some t => e.set t v | none => e
@[simp ↓] theorem putE_some (e : Env) (t : Nat) (v : V) : putE e (some t) v = e.set t v := (rfl)
@[simp ↓] theorem putE_none (e : Env) (v : V) : putE e none v = e := (rfl)

def opK (o : Option (V × Ws)) (k : V → Ws → Prop) : Prop := match o with | some q => k q.1 q.2 | none => False
@[simp ↓] theorem opK_some (q : V × Ws) (k : V → Ws → Prop) : opK (some q) k = k q.1 q.2 := (rfl)
@[simp ↓] theorem opK_none (k : V → Ws → Prop) : opK none k = False := (rfl)

def guardK (g : Option (Nat × Bool)) (e : Env) (a b : Prop) : Prop := match wanted g e with | some true => a | some false => b | none => False
def gdK (v : V) (w : Bool) (a b : Prop) : Prop := match v with | .b c => if c = w then a else b | .tu [] => b | _ => False
/-- One or the other; simp looks into both, each with what holds there. -/
def IfK (p : Prop) (a b : Prop) : Prop := (p → a) ∧ (¬p → b)
@[simp ↓] theorem IfK_true (a b : Prop) : IfK True a b = a := by simp [IfK]
@[simp ↓] theorem IfK_false (a b : Prop) : IfK False a b = b := by simp [IfK]
@[congr] theorem IfK_congr {p q a a' b b' : Prop} (h : p = q) (ha : q → a = a') (hb : ¬q → b = b') : IfK p a b = IfK q a' b' := by
  subst h
  unfold IfK
  apply propext
  constructor
  · exact fun k => ⟨fun hp => (ha hp) ▸ k.1 hp, fun hp => (hb hp) ▸ k.2 hp⟩
  · exact fun k => ⟨fun hp => (ha hp).symm ▸ k.1 hp, fun hp => (hb hp).symm ▸ k.2 hp⟩
theorem IfK_same (p a : Prop) : IfK p a a = a := by
  unfold IfK
  apply propext
  exact ⟨fun h => (Classical.em p).elim h.1 h.2, fun h => ⟨fun _ => h, fun _ => h⟩⟩
attribute [simp] IfK_same
theorem IfK.mk {p a b : Prop} (ha : p → a) (hb : ¬p → b) : IfK p a b := ⟨ha, hb⟩
/-- The same, where simp looks at what decides alone. -/
def IfC (p : Prop) (a b : Prop) : Prop := IfK p a b
@[congr] theorem IfC_congr {p q a b : Prop} (h : p = q) : IfC p a b = IfC q a b := by rw [h]
@[simp] theorem IfC_true (a b : Prop) : IfC True a b = a := IfK_true a b
@[simp] theorem IfC_false (a b : Prop) : IfC False a b = b := IfK_false a b
@[simp low] theorem IfC_eq (p a b : Prop) : IfC p a b = IfK p a b := (rfl)
theorem ifK (c : Prop) [Decidable c] (a b : Prop) : (if c then a else b) = IfC c a b := by
  unfold IfC IfK
  apply propext
  split
  · rename_i h; exact ⟨fun k => ⟨fun _ => k, fun n => absurd h n⟩, fun k => k.1 h⟩
  · rename_i h; exact ⟨fun k => ⟨fun n => absurd n h, fun _ => k⟩, fun k => k.2 h⟩
/-- A condition that simp has yet to look at. -/
def Cnd (p : Prop) : Prop := p
@[simp] theorem Cnd_eq (p : Prop) : Cnd p = p := (rfl)
@[simp] theorem gdK_b (c w : Bool) (a b : Prop) : gdK (.b c) w a b = IfC (Cnd (c = w)) a b := by rw [Cnd_eq, ← ifK]; rfl
@[simp] theorem gdK_tu (w : Bool) (a b : Prop) : gdK (.tu []) w a b = b := (rfl)
@[congr] theorem gdK_congr {v v' : V} {w : Bool} {a b : Prop} (h : v = v') : gdK v w a b = gdK v' w a b := by rw [h]
@[congr] theorem opK_congr {o o' : Option (V × Ws)} {k : V → Ws → Prop} (h : o = o') : opK o k = opK o' k := by rw [h]
theorem guardK_some (t : Nat) (w : Bool) (e : Env) (a b : Prop) : guardK (some (t, w)) e a b = gdK (e t) w a b := by
  unfold guardK wanted gdK
  simp only
  cases h : e t with
  | b c => cases c <;> cases w <;> simp
  | tu vs => cases vs <;> simp
  | _ => simp

/-- Operations in order. -/
def WO (C : Ctx) : List POper → S → (X → S → Prop) → Prop
  | [], s, Q => Q .nor s
  | p :: r, s, Q => guardK p.g s.e
    (match p.o with
      | .ca f args => CallX C (f.ev s.e) (args.map (Opd.ev s.e)) s.m s.x fun cr m' x' => match cr with
        | .ret v => WO C r ⟨putE s.e p.d v, m', x', s.ds, s.rv, s.rd⟩ Q
        | .pan v => Q (.pan v) ⟨s.e, m', x', s.ds, s.rv, s.rd⟩
      | .pa x => match x.ev s.e with
        | .fc t v => Q (.pan (.fc t v)) s
        | _ => False
      | .df f args => match f.ev s.e with
        | .fn (.func g) a c => if s.rd.isSome then False else WO C r ⟨putE s.e p.d (.tu []), s.m, s.x, .call (.fn (.func g) a c) (args.map (Opd.ev s.e)) :: s.ds, s.rv, s.rd⟩ Q
        | _ => False
      | .rc => match s.rv with
        | some v => WO C r ⟨putE s.e p.d v, s.m, s.x, s.ds, none, s.rd⟩ Q
        | none => False
      | o => opK (opD o s.e s.m s.x) fun v ws => WO C r ⟨putE s.e p.d v, s.m.app ws, s.x + 1, s.ds, s.rv, s.rd⟩ Q)
    (WO C r ⟨putE s.e p.d (.tu []), s.m, s.x, s.ds, s.rv, s.rd⟩ Q)

/-- Operations of open order. -/
def WA (C : Ctx) : List POper → S → List Tch → (X → S → List Tch → Prop) → Prop
  | [], s, ts, Q => Q .nor s ts.reverse
  | p :: r, s, ts, Q => guardK p.g s.e
    (match p.o with
      | .ca f args => CallQ C (f.ev s.e) (args.map (Opd.ev s.e)) s.m s.x fun q =>
        if q.pan = true then noWs ts = true ∧ lateOk p.d r = true ∧ Q (.pan q.v) ⟨fun _ => .un, s.m.app q.ws, q.x + r.length, s.ds, s.rv, s.rd⟩ []
        else WA C r ⟨putE s.e p.d q.v, s.m.app q.ws, q.x, s.ds, s.rv, s.rd⟩ ((q.ids, q.ws.map Prod.fst, none, q.ws) :: ts) Q
      | .pa _ | .df _ _ | .rc => False
      | o => opK (opD o s.e s.m s.x) fun v ws => WA C r ⟨putE s.e p.d v, s.m.app ws, s.x + 1, s.ds, s.rv, s.rd⟩ ((o.tch s.e s.x, ws.map Prod.fst, ldI o s.e v, ws) :: ts) Q)
    (WA C r ⟨putE s.e p.d (.tu []), s.m, s.x, s.ds, s.rv, s.rd⟩ (([], [], none, []) :: ts) Q)

def WS (C : Ctx) : List Seg → S → (X → S → Prop) → Prop
  | [], s, Q => Q .nor s
  | .seq ops :: r, s, Q => WO C ops s fun x s' => match x with
    | .nor => WS C r s' Q
    | x => Q x s'
  | .any ops prs :: r, s, Q => WA C ops s [] fun x s' ts => match x with
    | .nor => apartAll ts prs = true ∧ WS C r s' Q
    | x => Q x s'

def W (C : Ctx) : PCode → S → (X → S → Prop) → Prop
  | .skip, s, Q => Q .nor s
  | .reg segs, s, Q => WS C segs s Q
  | .seq a b, s, Q => W C a s fun x s' => match x with
    | .nor => W C b s' Q
    | x => Q x s'
  | .cond c a b, s, Q => match c.ev s.e with
    | .b t => if t then W C a s Q else W C b s Q
    | _ => False
  | .block id c, s, Q => W C c s fun x s' => match x with
    | .exit id' => Q (if id' = id then .nor else .exit id') s'
    | x => Q x s'
  | .loop c, s, Q => ∃ x s', Runs C (.loop c) s x s' ∧ Q x s'
  | .scope c, s, Q => W C c s Q
  | .exit id, s, Q => Q (.exit id) s
  | .ret, s, Q => Q .ret s
  | .rf f ps a b, s, Q => ∃ x s', Runs C (.rf f ps a b) s x s' ∧ Q x s'

section
variable {C : Ctx}

theorem wpCall_mono {f : V} {args : List V} {m : Sto} {x : Nat} {K K' : CR → Sto → Nat → Prop} (h : wpCall C f args m x K) (hk : ∀ cr m' x', K cr m' x' → K' cr m' x') : wpCall C f args m x K' :=
  let ⟨cr, m', x', h1, h2⟩ := h; ⟨cr, m', x', h1, hk _ _ _ h2⟩

theorem WO_wp : ∀ {l : List POper} {s : S} {Q Q' : X → S → Prop}, (∀ x s, Q x s → Q' x s) → WO C l s Q → wpOps C l s Q'
  | [], s, Q, Q', hq, h => hq _ _ h
  | ⟨d, o, g⟩ :: r, s, Q, Q', hq, h => by
    unfold WO at h
    unfold wpOps
    simp only at h ⊢
    unfold guardK at h
    have hput : ∀ v, ({ s with e := putE s.e d v } : S) = s.put d v := by intro v; cases d <;> rfl
    cases hw : wanted g s.e with
    | none => rw [hw] at h; exact h.elim
    | some c =>
      rw [hw] at h
      cases c with
      | false => simp only at h ⊢; rw [← hput]; exact WO_wp hq h
      | true =>
        simp only at h ⊢
        cases o with
        | ca f args =>
          simp only at h ⊢
          refine wpCall_mono (callX_ok h) fun cr m' x' hk => ?_
          cases cr with
          | ret v => simp only at hk ⊢; have := WO_wp hq hk; cases d <;> exact this
          | pan v => exact hq _ _ hk
        | pa y =>
          simp only at h ⊢
          split at h
          · rename_i hv; rw [hv]; exact hq _ _ h
          · exact h.elim
        | df f args =>
          simp only at h ⊢
          split at h
          · rename_i hv
            rw [hv]
            simp only
            split at h
            · exact h.elim
            · rename_i hrd; rw [if_neg hrd]; have := WO_wp hq h; cases d <;> exact this
          · exact h.elim
        | rc =>
          simp only at h ⊢
          split at h
          · rename_i hv; rw [hv]; have := WO_wp hq h; cases d <;> exact this
          · exact h.elim
        | _ =>
          simp only at h ⊢
          unfold opK at h
          split at h
          · rename_i hv; rw [hv]; have := WO_wp hq h; cases d <;> exact this
          · exact h.elim

theorem WA_wp : ∀ {l : List POper} {s : S} {ts : List Tch} {Q Q' : X → S → List Tch → Prop}, (∀ x s ts, Q x s ts → Q' x s ts) → WA C l s ts Q → wpAny C l s ts Q'
  | [], s, ts, Q, Q', hq, h => hq _ _ _ h
  | ⟨d, o, g⟩ :: r, s, ts, Q, Q', hq, h => by
    unfold WA at h
    unfold wpAny
    simp only at h ⊢
    unfold guardK at h
    have hput : ∀ v, ({ s with e := putE s.e d v } : S) = s.put d v := by intro v; cases d <;> rfl
    cases hw : wanted g s.e with
    | none => rw [hw] at h; exact h.elim
    | some c =>
      rw [hw] at h
      cases c with
      | false => simp only at h ⊢; rw [← hput]; exact WA_wp hq h
      | true =>
        simp only at h ⊢
        cases o with
        | ca f args =>
          simp only at h ⊢
          obtain ⟨q, h1, h2⟩ := callQ_ok h
          refine ⟨q, h1, ?_⟩
          split at h2
          · rename_i hp
            rw [if_pos hp]
            exact ⟨h2.1, h2.2.1, hq _ _ _ h2.2.2⟩
          · rename_i hp
            rw [if_neg hp]
            have := WA_wp hq h2
            cases d <;> exact this
        | pa y => exact h.elim
        | df f args => exact h.elim
        | rc => exact h.elim
        | _ =>
          simp only at h ⊢
          unfold opK at h
          split at h
          · rename_i hv; rw [hv]; have := WA_wp hq h; cases d <;> exact this
          · exact h.elim

theorem WS_wp : ∀ {l : List Seg} {s : S} {Q Q' : X → S → Prop}, (∀ x s, Q x s → Q' x s) → WS C l s Q → wpSegs C l s Q'
  | [], s, Q, Q', hq, h => hq _ _ h
  | .seq ops :: r, s, Q, Q', hq, h => by
    unfold WS at h
    unfold wpSegs
    refine WO_wp (fun x s' hk => ?_) h
    cases x with
    | nor => exact WS_wp hq hk
    | _ => exact hq _ _ hk
  | .any ops prs :: r, s, Q, Q', hq, h => by
    unfold WS at h
    unfold wpSegs
    refine WA_wp (fun x s' ts hk => ?_) h
    cases x with
    | nor => exact ⟨hk.1, WS_wp hq hk.2⟩
    | _ => exact hq _ _ hk

theorem W_wp : ∀ {c : PCode} {s : S} {Q Q' : X → S → Prop}, (∀ x s, Q x s → Q' x s) → W C c s Q → wp C c s Q'
  | .skip, s, Q, Q', hq, h => hq _ _ h
  | .reg segs, s, Q, Q', hq, h => WS_wp hq h
  | .seq a b, s, Q, Q', hq, h => by
    unfold W at h
    unfold wp
    refine W_wp (fun x s' hk => ?_) h
    cases x with
    | nor => exact W_wp hq hk
    | _ => exact hq _ _ hk
  | .cond c a b, s, Q, Q', hq, h => by
    unfold W at h
    unfold wp
    split at h
    · rename_i t ht
      rw [ht]
      cases t with
      | true => exact W_wp hq (by simpa using h)
      | false => exact W_wp hq (by simpa using h)
    · exact h.elim
  | .block id c, s, Q, Q', hq, h => by
    unfold W at h
    unfold wp
    refine W_wp (fun x s' hk => ?_) h
    cases x <;> exact hq _ _ hk
  | .loop c, s, Q, Q', hq, h => let ⟨x, s', h1, h2⟩ := h; ⟨x, s', h1, hq _ _ h2⟩
  | .scope c, s, Q, Q', hq, h => W_wp (c := c) hq h
  | .exit id, s, Q, Q', hq, h => hq _ _ h
  | .ret, s, Q, Q', hq, h => hq _ _ h
  | .rf f ps a b, s, Q, Q', hq, h => let ⟨x, s', h1, h2⟩ := h; ⟨x, s', h1, hq _ _ h2⟩

theorem W_ok {c : PCode} {s : S} {Q : X → S → Prop} (h : W C c s Q) : wp C c s Q := W_wp (fun _ _ h => h) h

/-! What stands behind, by names. -/
def SeqK (C : Ctx) (b : PCode) (Q : X → S → Prop) : X → S → Prop := fun x s' => match x with | .nor => W C b s' Q | x => Q x s'
def SegK (C : Ctx) (r : List Seg) (Q : X → S → Prop) : X → S → Prop := fun x s' => match x with | .nor => WS C r s' Q | x => Q x s'
def AnyK (C : Ctx) (prs : List (Nat × Nat)) (r : List Seg) (Q : X → S → Prop) : X → S → List Tch → Prop := fun x s' ts => match x with
  | .nor => apartAll ts prs = true ∧ WS C r s' Q
  | x => Q x s'
def BlkK (id : Nat) (Q : X → S → Prop) : X → S → Prop := fun x s' => match x with | .exit id' => Q (if id' = id then .nor else .exit id') s' | x => Q x s'
def OpsK (C : Ctx) (d : Option Nat) (r : List POper) (e : Env) (ds : List D) (rv : Option V) (rd : Option Nat) (Q : X → S → Prop) : CR → Sto → Nat → Prop := fun cr m' x' => match cr with
  | .ret v => WO C r ⟨putE e d v, m', x', ds, rv, rd⟩ Q
  | .pan v => Q (.pan v) ⟨e, m', x', ds, rv, rd⟩
def OpK (C : Ctx) (d : Option Nat) (r : List POper) (e : Env) (m : Sto) (x : Nat) (ds : List D) (rv : Option V) (rd : Option Nat) (Q : X → S → Prop) : V → Ws → Prop := fun v ws => WO C r ⟨putE e d v, m.app ws, x + 1, ds, rv, rd⟩ Q
def noI (_ : V) : Option (V × Bool × Nat × V) := none
def ldF (a : V) (ag : Bool) (n : Nat) (v : V) : Option (V × Bool × Nat × V) := some (a, ag, n, v)
@[simp] theorem noI_eq (v : V) : noI v = none := (rfl)
@[simp] theorem ldF_eq (a : V) (ag : Bool) (n : Nat) (v : V) : ldF a ag n v = some (a, ag, n, v) := (rfl)
@[simp] theorem immB_none (ws : Ws) : immB none ws = false := (rfl)
@[simp] theorem immB_p (l off : Nat) (ag : Bool) (n : Nat) (v : V) (ws : Ws) : immB (some (.p l off, ag, n, v)) ws = ws.all fun w => if w.1 = l then keepO w.2 ag n off v else true := (rfl)
def AOpK (C : Ctx) (d : Option Nat) (r : List POper) (e : Env) (m : Sto) (x : Nat) (ds : List D) (rv : Option V) (rd : Option Nat) (t : List Nat) (ld : V → Option (V × Bool × Nat × V)) (ts : List Tch) (Q : X → S → List Tch → Prop) : V → Ws → Prop := fun v ws => WA C r ⟨putE e d v, m.app ws, x + 1, ds, rv, rd⟩ ((t, ws.map Prod.fst, ld v, ws) :: ts) Q
def QK (C : Ctx) (d : Option Nat) (r : List POper) (e : Env) (m : Sto) (ds : List D) (rv : Option V) (rd : Option Nat) (ts : List Tch) (Q : X → S → List Tch → Prop) : QR → Prop := fun q =>
  if q.pan = true then noWs ts = true ∧ lateOk d r = true ∧ Q (.pan q.v) ⟨fun _ => .un, m.app q.ws, q.x + r.length, ds, rv, rd⟩ []
  else WA C r ⟨putE e d q.v, m.app q.ws, q.x, ds, rv, rd⟩ ((q.ids, q.ws.map Prod.fst, none, q.ws) :: ts) Q

/-- An operation that is no call and ends nothing. -/
def POp.isD : POp → Bool
  | .ca _ _ | .pa _ | .df _ _ | .rc => false
  | _ => true

theorem WO_g (d : Option Nat) (o : POp) (t : Nat) (w : Bool) (r : List POper) (e : Env) (m : Sto) (x : Nat) (ds : List D) (rv : Option V) (rd : Option Nat) (Q : X → S → Prop) :
    WO C (⟨d, o, some (t, w)⟩ :: r) ⟨e, m, x, ds, rv, rd⟩ Q = gdK (e t) w (WO C (⟨d, o, none⟩ :: r) ⟨e, m, x, ds, rv, rd⟩ Q) (WO C r ⟨putE e d (.tu []), m, x, ds, rv, rd⟩ Q) := by
  rw [← guardK_some, WO.eq_2]
  conv => rhs; arg 3; rw [WO.eq_2]
  rfl
theorem WO_ca (d : Option Nat) (f : Opd) (args : List Opd) (r : List POper) (e : Env) (m : Sto) (x : Nat) (ds : List D) (rv : Option V) (rd : Option Nat) (Q : X → S → Prop) :
    WO C (⟨d, .ca f args, none⟩ :: r) ⟨e, m, x, ds, rv, rd⟩ Q = CallX C (f.ev e) (args.map (Opd.ev e)) m x (OpsK C d r e ds rv rd Q) := by
  rw [WO.eq_2]
  rfl
theorem WA_ca (d : Option Nat) (f : Opd) (args : List Opd) (r : List POper) (e : Env) (m : Sto) (x : Nat) (ds : List D) (rv : Option V) (rd : Option Nat) (ts : List Tch) (Q : X → S → List Tch → Prop) :
    WA C (⟨d, .ca f args, none⟩ :: r) ⟨e, m, x, ds, rv, rd⟩ ts Q = CallQ C (f.ev e) (args.map (Opd.ev e)) m x (QK C d r e m ds rv rd ts Q) := by
  rw [WA.eq_2]
  rfl
theorem WO_d (d : Option Nat) (o : POp) (r : List POper) (e : Env) (m : Sto) (x : Nat) (ds : List D) (rv : Option V) (rd : Option Nat) (Q : X → S → Prop) (h : o.isD = true) :
    WO C (⟨d, o, none⟩ :: r) ⟨e, m, x, ds, rv, rd⟩ Q = opK (opD o e m x) (OpK C d r e m x ds rv rd Q) := by
  rw [WO.eq_2]
  cases o <;> first | rfl | cases h
theorem WA_d (d : Option Nat) (o : POp) (r : List POper) (e : Env) (m : Sto) (x : Nat) (ds : List D) (rv : Option V) (rd : Option Nat) (ts : List Tch) (Q : X → S → List Tch → Prop) (h : o.isD = true) :
    WA C (⟨d, o, none⟩ :: r) ⟨e, m, x, ds, rv, rd⟩ ts Q = opK (opD o e m x) (AOpK C d r e m x ds rv rd (o.tch e x) (ldI o e) ts Q) := by
  rw [WA.eq_2]
  cases o <;> first | rfl | cases h

/-! Loops. -/
def LpK (P : S → Prop) (Q : X → S → Prop) : X → S → Prop := fun x s => match x with | .nor => P s | x => Q x s
@[simp ↓] theorem LpK_nor (P : S → Prop) (Q : X → S → Prop) (s : S) : LpK P Q .nor s = P s := (rfl)
@[simp ↓] theorem LpK_ret (P : S → Prop) (Q : X → S → Prop) (s : S) : LpK P Q .ret s = Q .ret s := (rfl)
@[simp ↓] theorem LpK_exit (P : S → Prop) (Q : X → S → Prop) (s : S) (i : Nat) : LpK P Q (.exit i) s = Q (.exit i) s := (rfl)
@[congr] theorem FrK_congr {o o' : Option (List V × List Nat)} {k : List V → List Nat → Prop} {z : Prop} (h : o = o') : FrK o k z = FrK o' k z := by rw [h]
@[congr] theorem CallX_congr {C : Ctx} {f f' : V} {a a' : List V} {m m' : Sto} {x x' : Nat} {K : CR → Sto → Nat → Prop} (hf : f = f') (ha : a = a') (hm : m = m') (hx : x = x') : CallX C f a m x K = CallX C f' a' m' x' K := by rw [hf, ha, hm, hx]
@[congr] theorem CallQ_congr {C : Ctx} {f f' : V} {a a' : List V} {m m' : Sto} {x x' : Nat} {K : QR → Prop} (hf : f = f') (ha : a = a') (hm : m = m') (hx : x = x') : CallQ C f a m x K = CallQ C f' a' m' x' K := by rw [hf, ha, hm, hx]
@[congr] theorem wpCall_congr {C : Ctx} {f f' : V} {a a' : List V} {m m' : Sto} {x x' : Nat} {K : CR → Sto → Nat → Prop} (hf : f = f') (ha : a = a') (hm : m = m') (hx : x = x') : wpCall C f a m x K = wpCall C f' a' m' x' K := by rw [hf, ha, hm, hx]
/-- What holds of a state whose frame is as it was. -/
def Same (ds : List D) (rv : Option V) (rd : Option Nat) (I : Env → Sto → Nat → Prop) (s : S) : Prop := s.ds = ds ∧ s.rv = rv ∧ s.rd = rd ∧ I s.e s.m s.x
@[simp] theorem Same_eq (ds : List D) (rv : Option V) (rd : Option Nat) (I : Env → Sto → Nat → Prop) (e : Env) (m : Sto) (x : Nat) : Same ds rv rd I ⟨e, m, x, ds, rv, rd⟩ = I e m x := by
  unfold Same
  simp

/-- A loop, by a number that goes down. -/
theorem while_ok {b : PCode} (I : Nat → Env → Sto → Nat → Prop) {k : Nat} {e : Env} {m : Sto} {x : Nat} {ds : List D} {rv : Option V} {rd : Option Nat} {Q : X → S → Prop}
    (h0 : I k e m x)
    (hs : ∀ k e m x, I k e m x → W C b ⟨e, m, x, ds, rv, rd⟩ (LpK (Same ds rv rd fun e' m' x' => ∃ j, j < k ∧ I j e' m' x') Q)) :
    W C (.loop b) ⟨e, m, x, ds, rv, rd⟩ Q := by
  refine loop_ok (Inv := fun k s => Same ds rv rd (I k) s) ?_ (k := k) ?_
  · rintro k ⟨e, m, x, ds', rv', rd'⟩ ⟨h1, h2, h3, h4⟩
    simp only at h1 h2 h3 h4
    subst h1 h2 h3
    refine W_wp (fun xx s hq => ?_) (hs k e m x h4)
    cases xx with
    | nor =>
      obtain ⟨q1, q2, q3, j, q4, q5⟩ := hq
      exact ⟨j, q4, q1, q2, q3, q5⟩
    | _ => exact hq
  · simpa using h0

/-- A loop of so many rounds, at most; the last test is one round more. -/
theorem for_ok {b : PCode} (I : Nat → Env → Sto → Nat → Prop) (n : Nat) {e : Env} {m : Sto} {x : Nat} {ds : List D} {rv : Option V} {rd : Option Nat} {Q : X → S → Prop}
    (h0 : I 0 e m x)
    (hs : ∀ i e m x, i < n → I i e m x → W C b ⟨e, m, x, ds, rv, rd⟩ (LpK (Same ds rv rd (I (i + 1))) Q))
    (hl : ∀ e m x, I n e m x → W C b ⟨e, m, x, ds, rv, rd⟩ (LpK (fun _ => False) Q)) :
    W C (.loop b) ⟨e, m, x, ds, rv, rd⟩ Q := by
  refine loop_ok (Inv := fun k s => ∃ i, i ≤ n ∧ k = n - i ∧ Same ds rv rd (I i) s) ?_ (k := n) ⟨0, by omega, by omega, by simpa using h0⟩
  rintro k ⟨e, m, x, ds', rv', rd'⟩ ⟨i, hi, rfl, h1, h2, h3, h4⟩
  simp only at h1 h2 h3 h4
  subst h1 h2 h3
  by_cases hin : i < n
  · refine W_wp (fun xx s hq => ?_) (hs i e m x hin h4)
    cases xx with
    | nor => exact ⟨n - (i + 1), by omega, i + 1, by omega, rfl, hq⟩
    | _ => exact hq
  · obtain rfl : i = n := by omega
    refine W_wp (fun xx s hq => ?_) (hl e m x h4)
    cases xx with
    | nor => exact hq.elim
    | _ => exact hq
end
end Pi


/- Rules for proofs, with the state's parts apart: simp looks at slots, memory, numbers; never at what stands behind. -/
namespace Pi
open Go (IntKind TypeId FuncId Fn BinOp UnOp LoopState)
def evL (e : Env) (l : List Opd) : List V := l.map (Opd.ev e)
@[simp ↓] theorem evL_nil (e : Env) : evL e [] = [] := (rfl)
@[simp ↓] theorem evL_cons (e : Env) (a : Opd) (l : List Opd) : evL e (a :: l) = a.ev e :: evL e l := (rfl)
@[simp ↓] theorem ev_t (e : Env) (n : Nat) : Opd.ev e (.t n) = e n := (rfl)
@[simp ↓] theorem ev_c (e : Env) (v : V) : Opd.ev e (.c v) = v := (rfl)
section
variable (C : Ctx) (e : Env) (m : Sto) (x : Nat) (ds : List D) (rv : Option V) (rd : Option Nat) (Q : X → S → Prop) (ts : List Tch) (R : X → S → List Tch → Prop)
def w (c : PCode) : Prop := W C c ⟨e, m, x, ds, rv, rd⟩ Q
def ws (l : List Seg) : Prop := WS C l ⟨e, m, x, ds, rv, rd⟩ Q
def wo (l : List POper) : Prop := WO C l ⟨e, m, x, ds, rv, rd⟩ Q
def wa (l : List POper) : Prop := WA C l ⟨e, m, x, ds, rv, rd⟩ ts R
end
section
variable {C : Ctx} {e e' : Env} {m m' : Sto} {x x' : Nat} {ds : List D} {rv : Option V} {rd : Option Nat} {Q : X → S → Prop} {ts ts' : List Tch} {R : X → S → List Tch → Prop}
@[congr] theorem w_congr {c : PCode} (he : e = e') (hm : m = m') (hx : x = x') : w C e m x ds rv rd Q c = w C e' m' x' ds rv rd Q c := by rw [he, hm, hx]
end
section
variable {C : Ctx} {e : Env} {m : Sto} {x : Nat} {ds : List D} {rv : Option V} {rd : Option Nat} {Q : X → S → Prop} {ts : List Tch} {R : X → S → List Tch → Prop}
variable {d : Option Nat} {r : List POper}
/-! What stands behind. -/
@[simp ↓] theorem SeqK_nor (b : PCode) : SeqK C b Q .nor ⟨e, m, x, ds, rv, rd⟩ = w C e m x ds rv rd Q b := (rfl)
@[simp ↓] theorem SeqK_ret (b : PCode) (s : S) : SeqK C b Q .ret s = Q .ret s := (rfl)
@[simp ↓] theorem SeqK_exit (b : PCode) (s : S) (i : Nat) : SeqK C b Q (.exit i) s = Q (.exit i) s := (rfl)
@[simp ↓] theorem SegK_nor (l : List Seg) : SegK C l Q .nor ⟨e, m, x, ds, rv, rd⟩ = ws C e m x ds rv rd Q l := (rfl)
@[simp ↓] theorem AnyK_eq (prs : List (Nat × Nat)) (l : List Seg) : AnyK C prs l Q .nor ⟨e, m, x, ds, rv, rd⟩ ts = IfC (Cnd (apartAll ts prs = true)) (ws C e m x ds rv rd Q l) False := by
  unfold IfC IfK Cnd
  apply propext
  constructor
  · intro h; exact ⟨fun _ => h.2, fun n => n h.1⟩
  · intro h; exact (Classical.em (apartAll ts prs = true)).elim (fun k => ⟨k, h.1 k⟩) (fun k => (h.2 k).elim)
@[simp ↓] theorem BlkK_exit (id : Nat) (s : S) (i : Nat) : BlkK id Q (.exit i) s = Q (if i = id then .nor else .exit i) s := (rfl)
@[simp ↓] theorem BlkK_nor (id : Nat) (s : S) : BlkK id Q .nor s = Q .nor s := (rfl)
@[simp ↓] theorem BlkK_ret (id : Nat) (s : S) : BlkK id Q .ret s = Q .ret s := (rfl)
@[simp ↓] theorem OpsK_ret (v : V) : OpsK C d r e ds rv rd Q (.ret v) m x = wo C (putE e d v) m x ds rv rd Q r := (rfl)
@[simp ↓] theorem OpK_eq (v : V) (u : Ws) : OpK C d r e m x ds rv rd Q v u = wo C (putE e d v) (m.app u) (x + 1) ds rv rd Q r := (rfl)
@[simp ↓] theorem AOpK_eq (t : List Nat) (ld : V → Option (V × Bool × Nat × V)) (v : V) (u : Ws) : AOpK C d r e m x ds rv rd t ld ts R v u = wa C (putE e d v) (m.app u) (x + 1) ds rv rd ((t, u.map Prod.fst, ld v, u) :: ts) R r := (rfl)
@[simp ↓] theorem QK_eq (v : V) (u : Ws) (ids : List Nat) (x : Nat) : QK C d r e m ds rv rd ts R ⟨v, u, ids, x, false⟩ = wa C (putE e d v) (m.app u) x ds rv rd ((ids, u.map Prod.fst, none, u) :: ts) R r := (rfl)
@[simp ↓] theorem w_skip : w C e m x ds rv rd Q .skip = Q .nor ⟨e, m, x, ds, rv, rd⟩ := (rfl)
@[simp ↓] theorem w_reg (l : List Seg) : w C e m x ds rv rd Q (.reg l) = ws C e m x ds rv rd Q l := (rfl)
@[simp ↓] theorem w_seq (a b : PCode) : w C e m x ds rv rd Q (.seq a b) = w C e m x ds rv rd (SeqK C b Q) a := (rfl)
def cdK (v : V) (a b : Prop) : Prop := match v with | .b t => if t then a else b | _ => False
@[simp] theorem cdK_b (t : Bool) (a b : Prop) : cdK (.b t) a b = IfC (Cnd (t = true)) a b := by rw [Cnd_eq, ← ifK]; rfl
@[congr] theorem cdK_congr {v v' : V} {a b : Prop} (h : v = v') : cdK v a b = cdK v' a b := by rw [h]
@[simp ↓] theorem w_cond (c : Opd) (a b : PCode) : w C e m x ds rv rd Q (.cond c a b) = cdK (c.ev e) (w C e m x ds rv rd Q a) (w C e m x ds rv rd Q b) := (rfl)
@[simp ↓] theorem w_block (id : Nat) (c : PCode) : w C e m x ds rv rd Q (.block id c) = w C e m x ds rv rd (BlkK id Q) c := (rfl)
@[simp ↓] theorem w_exit (id : Nat) : w C e m x ds rv rd Q (.exit id) = Q (.exit id) ⟨e, m, x, ds, rv, rd⟩ := (rfl)
@[simp ↓] theorem w_ret : w C e m x ds rv rd Q .ret = Q .ret ⟨e, m, x, ds, rv, rd⟩ := (rfl)
@[simp ↓] theorem ws_nil : ws C e m x ds rv rd Q [] = Q .nor ⟨e, m, x, ds, rv, rd⟩ := (rfl)
@[simp ↓] theorem ws_seq (l : List POper) (k : List Seg) : ws C e m x ds rv rd Q (.seq l :: k) = wo C e m x ds rv rd (SegK C k Q) l := (rfl)
@[simp ↓] theorem ws_any (l : List POper) (prs : List (Nat × Nat)) (k : List Seg) : ws C e m x ds rv rd Q (.any l prs :: k) = wa C e m x ds rv rd [] (AnyK C prs k Q) l := (rfl)
@[simp ↓] theorem wo_nil : wo C e m x ds rv rd Q [] = Q .nor ⟨e, m, x, ds, rv, rd⟩ := (rfl)
@[simp ↓] theorem wa_nil : wa C e m x ds rv rd ts R [] = R .nor ⟨e, m, x, ds, rv, rd⟩ ts.reverse := (rfl)
@[simp ↓] theorem wo_g (o : POp) (t : Nat) (c : Bool) : wo C e m x ds rv rd Q (⟨d, o, some (t, c)⟩ :: r) = gdK (e t) c (wo C e m x ds rv rd Q (⟨d, o, none⟩ :: r)) (wo C (putE e d (.tu [])) m x ds rv rd Q r) := WO_g ..
@[simp ↓] theorem wo_ca (f : Opd) (args : List Opd) : wo C e m x ds rv rd Q (⟨d, .ca f args, none⟩ :: r) = CallX C (f.ev e) (evL e args) m x (OpsK C d r e ds rv rd Q) := WO_ca ..
@[simp ↓] theorem wa_ca (f : Opd) (args : List Opd) : wa C e m x ds rv rd ts R (⟨d, .ca f args, none⟩ :: r) = CallQ C (f.ev e) (evL e args) m x (QK C d r e m ds rv rd ts R) := WA_ca ..
/-- A loop, by a number that goes down. -/
theorem while_w {b : PCode} (I : Nat → Env → Sto → Nat → Prop) (k : Nat) 
    (h0 : I k e m x)
    (hs : ∀ k e m x, I k e m x → w C e m x ds rv rd (LpK (Same ds rv rd fun e' m' x' => ∃ j, j < k ∧ I j e' m' x') Q) b) :
    w C e m x ds rv rd Q (.loop b) := while_ok I h0 hs
/-- A loop of so many rounds, at most; the last test is one round more. -/
theorem for_w {b : PCode} (I : Nat → Env → Sto → Nat → Prop) (n : Nat)
    (h0 : I 0 e m x)
    (hs : ∀ i e m x, i < n → I i e m x → w C e m x ds rv rd (LpK (Same ds rv rd (I (i + 1))) Q) b)
    (hl : ∀ e m x, I n e m x → w C e m x ds rv rd (LpK (fun _ => False) Q) b) :
    w C e m x ds rv rd Q (.loop b) := for_ok I n h0 hs hl
end
end Pi


/- Single operations, as simp reads them. -/
namespace Pi
open Go (IntKind TypeId FuncId Fn BinOp UnOp LoopState)

@[simp] theorem BIG_eq : BIG = 2147483648 := (rfl)
@[simp] theorem at_z {α : Type} (a : α) (l : List α) : (a :: l)[0]? = some a := (rfl)
@[simp ↓] theorem Env.set_get (e : Env) (t : Nat) (v : V) (j : Nat) : (e.set t v) j = if j = t then v else e j := (rfl)
@[simp] theorem envOf_get (l : List V) (j : Nat) : envOf l j = (l[j]?).getD .un := by simp [envOf]
theorem Sto.seq (m : Sto) (l : Nat) (o : Option PObj) : (m.set l o) l = o := by simp [Sto.set]
theorem Sto.sne (m : Sto) (l : Nat) (o : Option PObj) (j : Nat) (h : j ≠ l) : (m.set l o) j = m j := by simp [Sto.set, h]
attribute [simp ↓] Sto.seq Sto.sne
@[simp ↓] theorem sapp_nil (m : Sto) : m.app [] = m := (rfl)
@[simp ↓] theorem sapp_cons (m : Sto) (w : Nat × Option PObj) (r : Ws) : m.app (w :: r) = (m.set w.1 w.2).app r := (rfl)

section
variable {C : Ctx}
variable (e : Env) (m : Sto) (x : Nat)

def mvV (v : V) : Option (V × Ws) := some (v, [])
@[simp] theorem mvV_eq (v : V) : mvV v = some (v, []) := (rfl)
def mfV (g : FuncId) (a c : List V) : Option (V × Ws) := some (.fn (.func g) a c, [])
@[simp] theorem mfV_eq (g : FuncId) (a c : List V) : mfV g a c = some (.fn (.func g) a c, []) := (rfl)
def alV (z : List V) (x : Nat) : Option (V × Ws) := some (.p x 0, [(x, some (.cells z false))])
@[simp] theorem alV_eq (z : List V) (x : Nat) : alV z x = some (.p x 0, [(x, some (.cells z false))]) := (rfl)
def ldO (o : Option PObj) (ag : Bool) (n off : Nat) : Option (V × Ws) := match o with
  | some (.cells cs _) => (getPart ag n cs off).map fun v => (v, [])
  | some (.lit cs) => (getPart ag n cs off).map fun v => (v, [])
  | some (.tc _ cs) => (getPart ag n cs off).map fun v => (v, [])
  | _ => none
def ldV (m : Sto) (ag : Bool) (n : Nat) (a : V) : Option (V × Ws) := match a with
  | .p l off => ldO (m l) ag n off
  | .rp cs => (getPart ag n cs 0).map fun v => (v, [])
  | _ => none
def stO (o : Option PObj) (n l off : Nat) (x : V) : Option (V × Ws) := match o with
  | some (.cells cs false) => if x.cells.length = n ∧ off + n ≤ cs.length ∧ x.stor then some (.un, [(l, some (.cells (splice cs off x.cells) false))]) else none
  | some (.tc T cs) => if x.cells.length = n ∧ off + n ≤ cs.length ∧ x.stor then some (.un, [(l, some (.tc T (splice cs off x.cells)))]) else none
  | _ => none
def stV (m : Sto) (n : Nat) (a x : V) : Option (V × Ws) := match a with
  | .p l off => stO (m l) n l off x
  | _ => none
def pkV (c a b : V) : Option (V × Ws) := match c with | .b t => some (if t then a else b, []) | _ => none
def bxV (v : V) (x : Nat) : Option (V × Ws) := if v.stor then some (.p x 0, [(x, some (.cells v.cells false))]) else none
def ncV (v : V) : Option (V × Ws) := match v with
  | .p l off => some (.p l off, [])
  | .rp cs => some (.rp cs, [])
  | .fn (.func f) a c => some (.fn (.func f) a c, [])
  | .fn (.yield f) a c => some (.fn (.yield f) a c, [])
  | _ => none
def noW (o : Option V) : Option (V × Ws) := o.map fun v => (v, [])
@[simp] theorem noW_some (v : V) : noW (some v) = some (v, []) := (rfl)
def ciV (k : IntKind) (v : V) : Option (V × Ws) := match v with | .i _ n => some (.i k (k.wrap n), []) | _ => none
def mkV (esz : Nat) (z : List V) (len cap : V) (x : Nat) : Option (V × Ws) := match len, cap with
  | .i .i64 n, .i .i64 c =>
    if 0 ≤ n ∧ n = c ∧ n ≤ BIG then
      if n = 0 then some (.ns, []) else some (.ms x 0 n.toNat esz, [(x, some (.cells (zeros z n.toNat) false))])
    else none
  | _, _ => none
def bndV (o : Option V) (d : Nat) : Option Nat := match o with
  | none => some d
  | some (.i _ n) => if 0 ≤ n then some n.toNat else none
  | _ => none
def evO (e : Env) (o : Option Opd) : Option V := o.map (Opd.ev e)
@[simp ↓] theorem evO_none : evO e none = none := (rfl)
@[simp ↓] theorem evO_some (a : Opd) : evO e (some a) = some (a.ev e) := (rfl)
theorem bnd_eq (o : Option Opd) (k : Nat) : bnd e o k = bndV (evO e o) k := by
  unfold bnd
  cases o with
  | none => rfl
  | some y =>
    show (match y.ev e with | .i _ n => if 0 ≤ n then some n.toNat else none | _ => none) = bndV (some (y.ev e)) k
    unfold bndV
    generalize y.ev e = v
    cases v <;> rfl
@[simp] theorem bndV_none (k : Nat) : bndV none k = some k := (rfl)
@[simp] theorem bndV_some (q : IntKind) (n : Int) (k : Nat) (h : 0 ≤ n) : bndV (some (.i q n)) k = some n.toNat := by simp [bndV, h]
def svV (esz : Nat) (v : V) (lo hi : Option V) : Option (V × Ws) := match v with
  | .ns => (bndV hi 0).bind fun h => (bndV lo 0).bind fun l => if l = 0 ∧ h = 0 then some (.ns, []) else none
  | .sl cs n => (bndV hi n).bind fun h => (bndV lo 0).bind fun l =>
    if l ≤ h ∧ h ≤ n ∧ cs.length = n * esz then some (.sl ((cs.drop (l * esz)).take ((h - l) * esz)) (h - l), []) else none
  | .ms b off n esz' => (bndV hi n).bind fun h => (bndV lo 0).bind fun l =>
    if l ≤ h ∧ h ≤ n ∧ esz' = esz then
      (if l = 0 then some (.ms b off h esz, []) else if h = l then some (.sl [] 0, []) else some (.ms b (off + l * esz) (h - l) esz, []))
    else none
  | _ => none
def saV (m : Sto) (n esz : Nat) (v : V) (lo hi : Option V) : Option (V × Ws) := match v with
  | .p b off => (bndV hi n).bind fun h => (bndV lo 0).bind fun l =>
    match m b with
    | some (.cells cs _) =>
      if l ≤ h ∧ h ≤ n ∧ off + n * esz ≤ cs.length then
        (if l = 0 then some (.ms b off h esz, []) else if h = l then some (.sl [] 0, []) else some (.ms b (off + l * esz) (h - l) esz, []))
      else none
    | _ => none
  | _ => none
def faV (off : Nat) (v : V) : Option (V × Ws) := match v with
  | .p l o => some (.p l (o + off), [])
  | .rp cs => some (.rp (cs.drop off), [])
  | _ => none
def feV (ag : Bool) (off n : Nat) (v : V) : Option (V × Ws) := match v with
  | .ag cs => (getPart ag n cs off).map fun v => (v, [])
  | _ => none
def iaV (esz : Nat) (v j : V) : Option (V × Ws) := match v, j with
  | .sl cs len, .i _ n => if 0 ≤ n ∧ n < len then some (.rp ((cs.drop (n.toNat * esz)).take esz), []) else none
  | .ms l off len esz', .i _ n => if 0 ≤ n ∧ n < len ∧ esz' = esz then some (.p l (off + n.toNat * esz), []) else none
  | _, _ => none
def izV (len esz : Nat) (v j : V) : Option (V × Ws) := match v, j with
  | .p l off, .i _ n => if 0 ≤ n ∧ n < len then some (.p l (off + n.toNat * esz), []) else none
  | .rp cs, .i _ n => if 0 ≤ n ∧ n < len then some (.rp (cs.drop (n.toNat * esz)), []) else none
  | _, _ => none
def lkO (o : Option PObj) (q : Pi.Q) (z k : V) (ok : Bool) : Option (V × Ws) := match o with
  | some (.map ks vs _) => look q z k ok ks vs
  | _ => none
def lkV (m : Sto) (q : Pi.Q) (z mm k : V) (ok : Bool) : Option (V × Ws) := match mm with
  | .nm => look q z k ok [] []
  | .rm ks vs => look q z k ok ks vs
  | .mp l => lkO (m l) q z k ok
  | _ => none
def muO (o : Option PObj) (q : Pi.Q) (l : Nat) (k v : V) : Option (V × Ws) := match o with
  | some (.map ks vs false) => (findIn q k ks).map fun
    | some j => (.un, [(l, some (.map ks (vs.set j v) false))])
    | none => (.un, [(l, some (.map (ks ++ [k]) (vs ++ [v]) false))])
  | _ => none
def exV (v : V) (j : Nat) : Option (V × Ws) := match v with
  | .tu vs => (vs[j]?).map fun v => (v, [])
  | _ => none
def lnV (m : Sto) (k : LK) (v : V) : Option (V × Ws) := (lenK m k v).map fun (n : Nat) => (V.i .i64 (n : Int), [])
/-- Some cells put behind a slice. -/
def apV (m : Sto) (esz : Nat) (s : V) (xs : List V) (n slot : Nat) : Option (V × Ws) := match s with
  | .ns => if n = 0 then some (.ns, []) else if n ≤ BIG then some (.ms slot 0 n esz, [(slot, some (.cells xs false))]) else none
  | .ms l 0 len esz' =>
    if n = 0 then some (.ms l 0 len esz', []) else
    match m l with
    | some (.cells cs false) =>
      if esz' = esz ∧ len * esz ≤ cs.length ∧ len + n ≤ BIG then
        some (.ms slot 0 (len + n) esz, [(l, none), (slot, some (.cells (cs.take (len * esz) ++ xs) false))])
      else none
    | some (.lit cs) =>
      if esz' = esz ∧ 0 < esz ∧ len * esz = cs.length ∧ len + n ≤ BIG then some (.ms slot 0 (len + n) esz, [(slot, some (.cells (cs ++ xs) false))]) else none
    | _ => none
  | _ => none
def apK (xs : Option (List V)) (n : Option Nat) (m : Sto) (esz : Nat) (s : V) (slot : Nat) : Option (V × Ws) := xs.bind fun xs => n.bind fun n => apV m esz s xs n slot
@[simp] theorem apK_some (xs : List V) (n : Nat) (m : Sto) (esz : Nat) (s : V) (slot : Nat) : apK (some xs) (some n) m esz s slot = apV m esz s xs n slot := (rfl)
def cpO (o : Option PObj) (esz l off len esz' : Nat) (xs : List V) (n : Nat) : Option (V × Ws) := match o with
  | some (.cells cs false) =>
    if esz' = esz ∧ off + len * esz ≤ cs.length then
      some (.i .i64 (min n len : Nat), [(l, some (.cells (splice cs off (xs.take (min n len * esz))) false))])
    else none
  | _ => none
def cpV (m : Sto) (esz : Nat) (v : V) (xs : List V) (n : Nat) : Option (V × Ws) := match v with
  | .ms l off len esz' => cpO (m l) esz l off len esz' xs n
  | .ns => some (.i .i64 0, [])
  | _ => none
def cpK (xs : Option (List V)) (n : Option Nat) (m : Sto) (esz : Nat) (v : V) : Option (V × Ws) := xs.bind fun xs => n.bind fun n => cpV m esz v xs n
@[simp] theorem cpK_some (xs : List V) (n : Nat) (m : Sto) (esz : Nat) (v : V) : cpK (some xs) (some n) m esz v = cpV m esz v xs n := (rfl)
def mxV (f : V → V → Option V) (l : List V) : Option (V × Ws) := match l with
  | [] => none
  | x :: r => (foldV f x r).map fun v => (v, [])
@[simp] theorem mxV_two (f : V → V → Option V) (a b : V) : mxV f [a, b] = noW (f a b) := by
  unfold mxV noW
  simp only [foldV]
  cases f a b <;> rfl
def bdV (o : Option (List V)) : Option (V × Ws) := o.map fun cs => (.ag cs, [])
@[simp] theorem bdV_some (l : List V) : bdV (some l) = some (.ag l, []) := (rfl)
def bsV (esz n : Nat) (o : Option (List V)) (slot : Nat) : Option (V × Ws) := o.map fun cs => (.ms slot 0 n esz, [(slot, some (litO esz cs))])
@[simp] theorem bsV_some (esz n : Nat) (l : List V) (slot : Nat) : bsV esz n (some l) slot = some (.ms slot 0 n esz, [(slot, some (litO esz l))]) := (rfl)
@[simp] theorem litO_1 (l : List V) : litO 1 l = .cells l false := (rfl)
@[simp] theorem litO_2 (l : List V) : litO 2 l = .cells l false := (rfl)
@[simp] theorem litO_3 (l : List V) : litO 3 l = .cells l false := (rfl)
theorem o_mv (a : Opd) : opD (.mv a) e m x = mvV (a.ev e) := (rfl)
theorem o_pk (c a b : Opd) : opD (.pk c a b) e m x = pkV (c.ev e) (a.ev e) (b.ev e) := (rfl)
theorem o_al (z : List V) : opD (.al z) e m x = alV z x := (rfl)
theorem o_bx (a : Opd) : opD (.bx a) e m x = bxV (a.ev e) x := (rfl)
theorem o_bd (z : List V) (ps : List (Nat × Nat × Opd)) : opD (.bd z ps) e m x = bdV (fill e z ps) := (rfl)
theorem o_bs (esz n : Nat) (z : List V) (ps : List (Nat × Nat × Opd)) : opD (.bs esz (n + 1) z ps) e m x = bsV esz (n + 1) (fill e (zeros z (n + 1)) ps) x := by simp [opD, bsV]
theorem o_ld (ag : Bool) (n : Nat) (a : Opd) : opD (.ld ag n a) e m x = ldV m ag n (a.ev e) := by
  simp only [opD]
  generalize a.ev e = v
  cases v <;> rfl
theorem o_st (n : Nat) (a b : Opd) : opD (.st n a b) e m x = stV m n (a.ev e) (b.ev e) := by
  simp only [opD]
  generalize a.ev e = v
  cases v <;> rfl
theorem o_nc (a : Opd) : opD (.nc a) e m x = ncV (a.ev e) := (rfl)
theorem o_bi (op : BinOp) (a b : Opd) : opD (.bi op a b) e m x = noW (bin op (a.ev e) (b.ev e)) := (rfl)
def eqW (o : Option Bool) (neg : Bool) : Option (V × Ws) := o.map fun c => (.b (if neg then !c else c), [])
@[simp] theorem eqW_some (c neg : Bool) : eqW (some c) neg = some (.b (if neg then !c else c), []) := (rfl)
theorem o_eq (neg : Bool) (q : Pi.Q) (a b : Opd) : opD (.eq neg q a b) e m x = eqW (eqQ q (a.ev e) (b.ev e)) neg := (rfl)
theorem o_un (op : UnOp) (a : Opd) : opD (.un op a) e m x = noW (una op (a.ev e)) := (rfl)
theorem o_ci (k : IntKind) (a : Opd) : opD (.ci k a) e m x = ciV k (a.ev e) := (rfl)
theorem o_mf (g : FuncId) (a c : List Opd) : opD (.mf (.func g) a c) e m x = mfV g (evL e a) (evL e c) := (rfl)
theorem o_mk (esz : Nat) (z : List V) (a b : Opd) : opD (.mk esz z a b) e m x = mkV esz z (a.ev e) (b.ev e) x := by
  simp only [opD]
  generalize a.ev e = v
  generalize b.ev e = u
  cases v <;> rfl
theorem o_sv (esz : Nat) (a : Opd) (lo hi : Option Opd) : opD (.sv esz a lo hi none) e m x = svV esz (a.ev e) (evO e lo) (evO e hi) := by
  simp only [opD, bnd_eq]
  generalize a.ev e = v
  cases v <;> rfl
theorem o_sa (n esz : Nat) (a : Opd) (lo hi : Option Opd) : opD (.sa n esz a lo hi) e m x = saV m n esz (a.ev e) (evO e lo) (evO e hi) := by
  simp only [opD, bnd_eq]
  generalize a.ev e = v
  cases v <;> rfl
theorem o_fa (off : Nat) (a : Opd) : opD (.fa off a) e m x = faV off (a.ev e) := (rfl)
theorem o_fe (ag : Bool) (off n : Nat) (a : Opd) : opD (.fe ag off n a) e m x = feV ag off n (a.ev e) := (rfl)
theorem o_ia (esz : Nat) (a j : Opd) : opD (.ia esz a j) e m x = iaV esz (a.ev e) (j.ev e) := (rfl)
theorem o_iz (len esz : Nat) (a j : Opd) : opD (.iz len esz a j) e m x = izV len esz (a.ev e) (j.ev e) := (rfl)
theorem o_lk (q : Pi.Q) (z : V) (mm k : Opd) (ok : Bool) : opD (.lk q z mm k ok) e m x = lkV m q z (mm.ev e) (k.ev e) ok := by
  simp only [opD]
  generalize mm.ev e = v
  cases v <;> rfl
theorem o_ex (a : Opd) (j : Nat) : opD (.ex a j) e m x = exV (a.ev e) j := (rfl)
theorem o_ln (k : LK) (a : Opd) : opD (.ln k a) e m x = lnV m k (a.ev e) := (rfl)
theorem o_ap (esz : Nat) (s a : Opd) : opD (.ap esz s a) e m x = apK (apCells m esz (a.ev e)) (lenV m (a.ev e)) m esz (s.ev e) x := by
  simp only [opD]
  generalize s.ev e = u
  cases u <;> rfl
/-- So many noughts put behind no slice. -/
def anV (esz : Nat) (z : List V) (s n : V) (x : Nat) : Option (V × Ws) := match s, n with
  | .ns, .i .i64 n => if 0 ≤ n ∧ n ≤ BIG then (if n = 0 then some (.ns, []) else some (.ms x 0 n.toNat esz, [(x, some (.cells (zeros z n.toNat) false))])) else none
  | _, _ => none
@[simp] theorem anV_i (esz : Nat) (z : List V) (n : Int) : anV esz z .ns (.i .i64 n) x = if 0 ≤ n ∧ n ≤ 2147483648 then (if n = 0 then some (.ns, []) else some (.ms x 0 n.toNat esz, [(x, some (.cells (zeros z n.toNat) false))])) else none := (rfl)
theorem o_an (esz : Nat) (z : List V) (a b : Opd) : opD (.an esz z a b) e m x = anV esz z (a.ev e) (b.ev e) x := by
  simp only [opD]
  generalize a.ev e = v
  generalize b.ev e = u
  cases v <;> rfl
theorem o_cp (esz : Nat) (v a : Opd) : opD (.cp esz v a) e m x = cpK (apCells m esz (a.ev e)) (lenV m (a.ev e)) m esz (v.ev e) := by
  simp only [opD]
  generalize v.ev e = u
  cases u <;> rfl
theorem o_mx (l : List Opd) : opD (.mx l) e m x = mxV max2 (evL e l) := by
  cases l <;> rfl
/-! Memory is looked at by its places alone. -/
section
variable {m : Sto} {v v' u u' : V}
@[congr] theorem ldV_congr {ag : Bool} {n : Nat} (h : v = v') : ldV m ag n v = ldV m ag n v' := by rw [h]
@[congr] theorem stV_congr {n : Nat} (h : v = v') (k : u = u') : stV m n v u = stV m n v' u' := by rw [h, k]
@[congr] theorem saV_congr {n esz : Nat} {lo hi lo' hi' : Option V} (h : v = v') (h1 : lo = lo') (h2 : hi = hi') : saV m n esz v lo hi = saV m n esz v' lo' hi' := by rw [h, h1, h2]
@[congr] theorem lkV_congr {q : Pi.Q} {z : V} {ok : Bool} (h : v = v') (k : u = u') : lkV m q z v u ok = lkV m q z v' u' ok := by rw [h, k]
@[congr] theorem lnV_congr {k : LK} (h : v = v') : lnV m k v = lnV m k v' := by rw [h]
@[congr] theorem lenV_congr (h : v = v') : lenV m v = lenV m v' := by rw [h]
@[congr] theorem apCells_congr {k : Nat} (h : v = v') : apCells m k v = apCells m k v' := by rw [h]
@[congr] theorem apK_congr {xs xs' : Option (List V)} {n n' : Option Nat} {k s s' : Nat} (h1 : xs = xs') (h2 : n = n') (h : v = v') (hs : s = s') : apK xs n m k v s = apK xs' n' m k v' s' := by rw [h1, h2, h, hs]
@[congr] theorem cpK_congr {xs xs' : Option (List V)} {n n' : Option Nat} {k : Nat} (h1 : xs = xs') (h2 : n = n') (h : v = v') : cpK xs n m k v = cpK xs' n' m k v' := by rw [h1, h2, h]
end
/-! What they tell of values that are written out. -/
@[simp] theorem ldV_p (ag : Bool) (n l off : Nat) : ldV m ag n (.p l off) = ldO (m l) ag n off := (rfl)
@[simp] theorem ldV_rp (ag : Bool) (n : Nat) (cs : List V) : ldV m ag n (.rp cs) = noW (getPart ag n cs 0) := (rfl)
@[simp] theorem ldO_cells (cs : List V) (ro ag : Bool) (n off : Nat) : ldO (some (.cells cs ro)) ag n off = noW (getPart ag n cs off) := (rfl)
@[simp] theorem getPart_f (n : Nat) (cs : List V) (off : Nat) : getPart false n cs off = cs[off]? := (rfl)
@[simp] theorem getPart_t (n : Nat) (cs : List V) (off : Nat) : getPart true n cs off = if off + n ≤ cs.length then some (.ag ((cs.drop off).take n)) else none := by simp [getPart]
@[simp] theorem stV_p (n l off : Nat) (v : V) : stV m n (.p l off) v = stO (m l) n l off v := (rfl)
@[simp] theorem stO_cells (cs : List V) (n l off : Nat) (v : V) : stO (some (.cells cs false)) n l off v = if v.cells.length = n ∧ off + n ≤ cs.length ∧ v.stor then some (.un, [(l, some (.cells (splice cs off v.cells) false))]) else none := (rfl)
@[simp] theorem pkV_b (t : Bool) (a b : V) : pkV (.b t) a b = some (if t then a else b, []) := (rfl)
@[simp] theorem bxV_eq (v : V) : bxV v x = if v.stor = true then some (.p x 0, [(x, some (.cells v.cells false))]) else none := (rfl)
@[simp] theorem ncV_p (l off : Nat) : ncV (.p l off) = some (.p l off, []) := (rfl)
@[simp] theorem ciV_i (k q : IntKind) (n : Int) : ciV k (.i q n) = some (.i k (k.wrap n), []) := (rfl)
@[simp] theorem mkV_i (esz : Nat) (z : List V) (n c : Int) : mkV esz z (.i .i64 n) (.i .i64 c) x = if 0 ≤ n ∧ n = c ∧ n ≤ 2147483648 then (if n = 0 then some (.ns, []) else some (.ms x 0 n.toNat esz, [(x, some (.cells (zeros z n.toNat) false))])) else none := (rfl)
@[simp] theorem svV_ns (esz : Nat) (lo hi : Option V) : svV esz .ns lo hi = (bndV hi 0).bind fun h => (bndV lo 0).bind fun l => if l = 0 ∧ h = 0 then some (.ns, []) else none := (rfl)
@[simp] theorem svV_ms (esz b off n k : Nat) (lo hi : Option V) : svV esz (.ms b off n k) lo hi = (bndV hi n).bind fun h => (bndV lo 0).bind fun l =>
    if l ≤ h ∧ h ≤ n ∧ k = esz then (if l = 0 then some (.ms b off h esz, []) else if h = l then some (.sl [] 0, []) else some (.ms b (off + l * esz) (h - l) esz, [])) else none := (rfl)
def saO (o : Option PObj) (b off n esz : Nat) (lo hi : Option V) : Option (V × Ws) := (bndV hi n).bind fun h => (bndV lo 0).bind fun l =>
    match o with
    | some (.cells cs _) =>
      if l ≤ h ∧ h ≤ n ∧ off + n * esz ≤ cs.length then
        (if l = 0 then some (.ms b off h esz, []) else if h = l then some (.sl [] 0, []) else some (.ms b (off + l * esz) (h - l) esz, []))
      else none
    | _ => none
@[simp] theorem saV_p (n esz b off : Nat) (lo hi : Option V) : saV m n esz (.p b off) lo hi = saO (m b) b off n esz lo hi := (rfl)
@[simp] theorem saO_cells (cs : List V) (ro : Bool) (b off n esz : Nat) (lo hi : Option V) : saO (some (.cells cs ro)) b off n esz lo hi = (bndV hi n).bind fun h => (bndV lo 0).bind fun l =>
    if l ≤ h ∧ h ≤ n ∧ off + n * esz ≤ cs.length then (if l = 0 then some (.ms b off h esz, []) else if h = l then some (.sl [] 0, []) else some (.ms b (off + l * esz) (h - l) esz, [])) else none := (rfl)
@[simp] theorem faV_p (off l o : Nat) : faV off (.p l o) = some (.p l (o + off), []) := (rfl)
@[simp] theorem faV_rp (off : Nat) (cs : List V) : faV off (.rp cs) = some (.rp (cs.drop off), []) := (rfl)
@[simp] theorem feV_ag (ag : Bool) (off n : Nat) (cs : List V) : feV ag off n (.ag cs) = noW (getPart ag n cs off) := (rfl)
@[simp] theorem iaV_sl (esz : Nat) (cs : List V) (len : Nat) (q : IntKind) (n : Int) : iaV esz (.sl cs len) (.i q n) = if 0 ≤ n ∧ n < len then some (.rp ((cs.drop (n.toNat * esz)).take esz), []) else none := (rfl)
@[simp] theorem iaV_ms (esz l off len esz' : Nat) (q : IntKind) (n : Int) : iaV esz (.ms l off len esz') (.i q n) = if 0 ≤ n ∧ n < len ∧ esz' = esz then some (.p l (off + n.toNat * esz), []) else none := (rfl)
@[simp] theorem izV_p (len esz l off : Nat) (q : IntKind) (n : Int) : izV len esz (.p l off) (.i q n) = if 0 ≤ n ∧ n < len then some (.p l (off + n.toNat * esz), []) else none := (rfl)
@[simp] theorem lkV_rm (q : Pi.Q) (z k : V) (ok : Bool) (ks vs : List V) : lkV m q z (.rm ks vs) k ok = look q z k ok ks vs := (rfl)
@[simp] theorem exV_tu (vs : List V) (j : Nat) : exV (.tu vs) j = noW vs[j]? := (rfl)
def lnO (o : Option Nat) : Option (V × Ws) := o.map fun n => (V.i .i64 (n : Int), [])
@[simp] theorem lnO_some (n : Nat) : lnO (some n) = some (.i .i64 (n : Int), []) := (rfl)
@[simp] theorem lnV_eq (k : LK) (v : V) : lnV m k v = lnO (lenK m k v) := by cases h : lenK m k v <;> simp [lnV, lnO, h]
@[simp] theorem lenK_l (v : V) : lenK m .l v = lenSl v := by cases v <;> rfl
@[simp] theorem lenSl_ns : lenSl .ns = some 0 := (rfl)
@[simp] theorem lenSl_sl (cs : List V) (n : Nat) : lenSl (.sl cs n) = some n := (rfl)
@[simp] theorem lenSl_ms (l off n k : Nat) : lenSl (.ms l off n k) = some n := (rfl)
@[simp] theorem lenV_ms (l off n k : Nat) : lenV m (.ms l off n k) = some n := (rfl)
@[simp] theorem apV_ns (esz : Nat) (xs : List V) (n slot : Nat) : apV m esz .ns xs n slot = if n = 0 then some (.ns, []) else if n ≤ BIG then some (.ms slot 0 n esz, [(slot, some (.cells xs false))]) else none := (rfl)
def apO (o : Option PObj) (esz l len esz' : Nat) (xs : List V) (n slot : Nat) : Option (V × Ws) := match o with
  | some (.cells cs false) =>
    if esz' = esz ∧ len * esz ≤ cs.length ∧ len + n ≤ BIG then
      some (.ms slot 0 (len + n) esz, [(l, none), (slot, some (.cells (cs.take (len * esz) ++ xs) false))])
    else none
  | some (.lit cs) =>
    if esz' = esz ∧ 0 < esz ∧ len * esz = cs.length ∧ len + n ≤ BIG then some (.ms slot 0 (len + n) esz, [(slot, some (.cells (cs ++ xs) false))]) else none
  | _ => none
@[simp] theorem apV_ms (esz l len esz' : Nat) (xs : List V) (n slot : Nat) : apV m esz (.ms l 0 len esz') xs n slot = if n = 0 then some (.ms l 0 len esz', []) else apO (m l) esz l len esz' xs n slot := (rfl)
@[simp] theorem apO_lit (cs : List V) (esz l len esz' : Nat) (xs : List V) (n slot : Nat) : apO (some (.lit cs)) esz l len esz' xs n slot = if esz' = esz ∧ 0 < esz ∧ len * esz = cs.length ∧ len + n ≤ BIG then
      some (.ms slot 0 (len + n) esz, [(slot, some (.cells (cs ++ xs) false))]) else none := rfl
@[simp] theorem apO_cells (cs : List V) (esz l len esz' : Nat) (xs : List V) (n slot : Nat) : apO (some (.cells cs false)) esz l len esz' xs n slot = if esz' = esz ∧ len * esz ≤ cs.length ∧ len + n ≤ BIG then
      some (.ms slot 0 (len + n) esz, [(l, none), (slot, some (.cells (cs.take (len * esz) ++ xs) false))]) else none := rfl
@[simp] theorem apCells_ms (esz l off n k : Nat) : apCells m esz (.ms l off n k) = slCells m esz (.ms l off n k) := (rfl)
@[simp] theorem slCells_sl (esz : Nat) (cs : List V) (n : Nat) (h : cs.length = n * esz) : slCells m esz (.sl cs n) = some cs := by simp [slCells, h]
def slO (o : Option PObj) (esz off len esz' : Nat) : Option (List V) := match o with
  | some (.cells cs _) => if esz' = esz ∧ off + len * esz ≤ cs.length then some ((cs.drop off).take (len * esz)) else none
  | some (.lit cs) => if esz' = esz ∧ off + len * esz ≤ cs.length then some ((cs.drop off).take (len * esz)) else none
  | _ => none
@[simp] theorem slCells_ms (esz l off n k : Nat) : slCells m esz (.ms l off n k) = slO (m l) esz off n k := (rfl)
@[simp] theorem slO_litO (z : Nat) (cs : List V) (esz off len esz' : Nat) : slO (some (litO z cs)) esz off len esz' = if esz' = esz ∧ off + len * esz ≤ cs.length then some ((cs.drop off).take (len * esz)) else none := by
  unfold litO
  split
  · split <;> rfl
  · rfl
@[simp] theorem slO_cells (cs : List V) (ro : Bool) (esz off len esz' : Nat) : slO (some (.cells cs ro)) esz off len esz' = if esz' = esz ∧ off + len * esz ≤ cs.length then some ((cs.drop off).take (len * esz)) else none := (rfl)
@[simp] theorem cpV_ns (esz : Nat) (xs : List V) (n : Nat) : cpV m esz .ns xs n = some (.i .i64 0, []) := (rfl)
@[simp] theorem cpV_ms (esz l off len esz' : Nat) (xs : List V) (n : Nat) : cpV m esz (.ms l off len esz') xs n = cpO (m l) esz l off len esz' xs n := (rfl)
@[simp] theorem cpO_cells (cs : List V) (esz l off len esz' : Nat) (xs : List V) (n : Nat) : cpO (some (.cells cs false)) esz l off len esz' xs n =
    if esz' = esz ∧ off + len * esz ≤ cs.length then some (.i .i64 (min n len : Nat), [(l, some (.cells (splice cs off (xs.take (min n len * esz))) false))]) else none := rfl
@[simp] theorem max2_i (k q : IntKind) (a b : Int) : max2 (.i k a) (.i q b) = some (.i k (max a b)) := by
  simp only [max2]
  congr 2
  split <;> omega
@[simp] theorem una_not (a : Bool) : una .not (.b a) = some (.b (!a)) := (rfl)
@[simp] theorem bin_add (k : IntKind) (a b : Int) : bin .add (.i k a) (.i k b) = some (.i k (k.wrap (a + b))) := by simp [bin, binI]
@[simp] theorem bin_sub (k : IntKind) (a b : Int) : bin .sub (.i k a) (.i k b) = some (.i k (k.wrap (a - b))) := by simp [bin, binI]
@[simp] theorem bin_mul (k : IntKind) (a b : Int) : bin .mul (.i k a) (.i k b) = some (.i k (k.wrap (a * b))) := by simp [bin, binI]
@[simp] theorem bin_eql (k : IntKind) (a b : Int) : bin .eql (.i k a) (.i k b) = some (.b (decide (a = b))) := by
  simp only [bin, binI, if_true]
  congr 2
@[simp] theorem bin_neq (k : IntKind) (a b : Int) : bin .neq (.i k a) (.i k b) = some (.b (!decide (a = b))) := by
  simp only [bin, binI, if_true]
  congr 2
@[simp] theorem bin_lss (k : IntKind) (a b : Int) : bin .lss (.i k a) (.i k b) = some (.b (decide (a < b))) := by simp [bin, binI]
@[simp] theorem bin_leq (k : IntKind) (a b : Int) : bin .leq (.i k a) (.i k b) = some (.b (decide (a ≤ b))) := by simp [bin, binI]
@[simp] theorem bin_gtr (k : IntKind) (a b : Int) : bin .gtr (.i k a) (.i k b) = some (.b (decide (b < a))) := by simp [bin, binI]
@[simp] theorem bin_geq (k : IntKind) (a b : Int) : bin .geq (.i k a) (.i k b) = some (.b (decide (b ≤ a))) := by simp [bin, binI]
@[simp] theorem bin_rem (k : IntKind) (a b : Int) (h : b ≠ 0) : bin .rem (.i k a) (.i k b) = some (.i k (a.tmod b)) := by simp [bin, binI, h]
@[simp] theorem bin_quo (k : IntKind) (a b : Int) (h : b ≠ 0) : bin .quo (.i k a) (.i k b) = some (.i k (k.wrap (a.tdiv b))) := by simp [bin, binI, h]

/-! What numbers decide. -/
theorem IfC_yes {p a b : Prop} (h : p) : IfC p a b = a := by
  have : p = True := eq_true h
  subst this
  exact IfC_true a b
theorem IfC_no {p a b : Prop} (h : ¬p) : IfC p a b = b := by
  have : p = False := eq_false h
  subst this
  exact IfC_false a b
section
variable {i j : Int} {p q : Nat} {A B : Prop}
@[simp] theorem IfC_lt1 (h : i < j) : IfC (i < j) A B = A := IfC_yes h
@[simp] theorem IfC_lt0 (h : ¬ i < j) : IfC (i < j) A B = B := IfC_no h
@[simp] theorem IfC_le1 (h : i ≤ j) : IfC (i ≤ j) A B = A := IfC_yes h
@[simp] theorem IfC_le0 (h : ¬ i ≤ j) : IfC (i ≤ j) A B = B := IfC_no h
@[simp] theorem IfC_eq1 (h : i = j) : IfC (i = j) A B = A := IfC_yes h
@[simp] theorem IfC_eq0 (h : ¬ i = j) : IfC (i = j) A B = B := IfC_no h
@[simp] theorem IfC_not (p : Prop) : IfC (¬ p) A B = IfC (Cnd p) B A := by
  unfold IfC IfK Cnd
  apply propext
  constructor
  · exact fun h => ⟨fun hp => h.2 (fun n => n hp), h.1⟩
  · exact fun h => ⟨h.2, fun hn => h.1 (Classical.not_not.1 hn)⟩
@[simp] theorem IfCn_lt1 (h : p < q) : IfC (p < q) A B = A := IfC_yes h
@[simp] theorem IfCn_lt0 (h : ¬ p < q) : IfC (p < q) A B = B := IfC_no h
@[simp] theorem IfCn_eq1 (h : p = q) : IfC (p = q) A B = A := IfC_yes h
@[simp] theorem IfCn_eq0 (h : ¬ p = q) : IfC (p = q) A B = B := IfC_no h
end

/-! Maps. -/
def lkR (o : Option (Option Nat)) (z : V) (ok : Bool) (vs : List V) : Option (V × Ws) := o.bind fun
  | some j => (vs[j]?).map fun v => (if ok then .tu [v, .b true] else v, [])
  | none => some (if ok then .tu [z, .b false] else z, [])
@[simp] theorem look_eq (q : Pi.Q) (z k : V) (ok : Bool) (ks vs : List V) : look q z k ok ks vs = lkR (findIn q k ks) z ok vs := (rfl)
@[congr] theorem lkR_congr {o o' : Option (Option Nat)} {z : V} {ok : Bool} {vs : List V} (h : o = o') : lkR o z ok vs = lkR o' z ok vs := by rw [h]
@[simp] theorem lkR_some (j : Nat) (z : V) (vs : List V) : lkR (some (some j)) z true vs = (vs[j]?).map fun v => (.tu [v, .b true], []) := (rfl)
@[simp] theorem lkR_some0 (j : Nat) (z : V) (vs : List V) : lkR (some (some j)) z false vs = (vs[j]?).map fun v => (v, []) := (rfl)
@[simp] theorem lkR_none (z : V) (vs : List V) : lkR (some none) z true vs = some (.tu [z, .b false], []) := (rfl)
@[simp] theorem lkR_none0 (z : V) (vs : List V) : lkR (some none) z false vs = some (z, []) := (rfl)
@[simp ↓] theorem findIn_i (k : IntKind) (n : Int) (ks : List V) : findIn (.one .i) (.i k n) ks = find (.one .i) (.i k n) ks 0 := by simp [findIn, eqQ, eqK]
@[simp ↓] theorem find_nil (q : Pi.Q) (k : V) (j : Nat) : find q k [] j = some none := (rfl)
@[simp ↓] theorem find_i (k : IntKind) (n a : Int) (r : List V) (j : Nat) : find (.one .i) (.i k n) (.i k a :: r) j = if n = a then some (some j) else find (.one .i) (.i k n) r (j + 1) := by
  rw [find.eq_2]
  simp only [eqQ, eqK, if_true, Option.bind_some]
  by_cases h : n = a <;> simp [h]
/-! Cells. -/
@[simp] theorem cells_b (c : Bool) : (V.b c).cells = [V.b c] := (rfl)
@[simp] theorem stor_b (c : Bool) : (V.b c).stor = true := (rfl)
@[simp] theorem cells_i (k : IntKind) (n : Int) : (V.i k n).cells = [V.i k n] := (rfl)
@[simp] theorem stor_i (k : IntKind) (n : Int) : (V.i k n).stor = true := (rfl)
@[simp] theorem cells_ns  : (V.ns).cells = [V.ns] := (rfl)
@[simp] theorem stor_ns  : (V.ns).stor = true := (rfl)
@[simp] theorem cells_ms (l o n k : Nat) : (V.ms l o n k).cells = [V.ms l o n k] := (rfl)
@[simp] theorem stor_ms (l o n k : Nat) : (V.ms l o n k).stor = true := (rfl)
@[simp] theorem cells_ag (cs : List V) : (V.ag cs).cells = cs := (rfl)
@[simp] theorem stor_ag (cs : List V) : (V.ag cs).stor = true := (rfl)
attribute [simp] splice zeros
def flK (v : V) (n off : Nat) (cs : List V) : Option (List V) := if v.cells.length = n ∧ off + n ≤ cs.length ∧ v.stor then some (splice cs off v.cells) else none
@[simp] theorem flK_eq (v : V) (n off : Nat) (cs : List V) : flK v n off cs = if v.cells.length = n ∧ off + n ≤ cs.length ∧ v.stor then some (splice cs off v.cells) else none := (rfl)
def fillK (o : Option (List V)) (e : Env) (r : List (Nat × Nat × Opd)) : Option (List V) := o.bind fun cs => fill e cs r
@[congr] theorem fillK_congr {o o' : Option (List V)} {e : Env} {r : List (Nat × Nat × Opd)} (h : o = o') : fillK o e r = fillK o' e r := by rw [h]
@[simp ↓] theorem fillK_some (cs : List V) (e : Env) (r : List (Nat × Nat × Opd)) : fillK (some cs) e r = fill e cs r := (rfl)
@[simp ↓] theorem fill_nil (e : Env) (cs : List V) : fill e cs [] = some cs := (rfl)
@[simp ↓] theorem fill_cons (e : Env) (cs : List V) (off n : Nat) (x : Opd) (r : List (Nat × Nat × Opd)) : fill e cs ((off, n, x) :: r) = fillK (flK (x.ev e) n off cs) e r := by
  unfold flK fillK
  rw [fill.eq_2]
  split <;> rfl
theorem i64w {a : Int} (h : -9223372036854775808 ≤ a) (h' : a < 9223372036854775808) : IntKind.i64.wrap a = a := by
  simp only [IntKind.wrap, IntKind.signed, IntKind.bits]
  simp
  omega
theorem u64w {a : Int} (h : 0 ≤ a) (h' : a < 18446744073709551616) : IntKind.u64.wrap a = a := by
  simp only [IntKind.wrap, IntKind.signed, IntKind.bits]
  simp
  omega
theorem i64W {a : Int} (h : -9223372036854775808 ≤ a ∧ a < 9223372036854775808) : IntKind.i64.wrap a = a := i64w h.1 h.2
theorem u64W {a : Int} (h : 0 ≤ a ∧ a < 18446744073709551616) : IntKind.u64.wrap a = a := u64w h.1 h.2
attribute [simp] i64W u64W
@[simp] theorem refOf_p (l o : Nat) : refOf (V.p l o) = [l] := (rfl)
@[simp] theorem refOf_rp (cs : List V) : refOf (V.rp cs) = [] := (rfl)
@[simp] theorem refOf_ms (l o n k : Nat) : refOf (V.ms l o n k) = [l] := (rfl)
end
/-! Operations in code. -/
section
variable {C : Ctx} {e : Env} {m : Sto} {x : Nat} {ds : List D} {rv : Option V} {rd : Option Nat} {Q : X → S → Prop} {ts : List Tch} {R : X → S → List Tch → Prop} {d : Option Nat} {r : List POper}
@[simp ↓] theorem wo_mv (a : Opd) : wo C e m x ds rv rd Q (⟨d, .mv a, none⟩ :: r) = opK (mvV (a.ev e)) (OpK C d r e m x ds rv rd Q) := by rw [← o_mv]; exact WO_d _ _ _ _ _ _ _ _ _ _ rfl
@[simp ↓] theorem wa_mv (a : Opd) : wa C e m x ds rv rd ts R (⟨d, .mv a, none⟩ :: r) = opK (mvV (a.ev e)) (AOpK C d r e m x ds rv rd ([]) noI ts R) := by rw [← o_mv]; exact WA_d _ _ _ _ _ _ _ _ _ _ _ rfl
@[simp ↓] theorem wo_pk (c a b : Opd) : wo C e m x ds rv rd Q (⟨d, .pk c a b, none⟩ :: r) = opK (pkV (c.ev e) (a.ev e) (b.ev e)) (OpK C d r e m x ds rv rd Q) := by rw [← o_pk]; exact WO_d _ _ _ _ _ _ _ _ _ _ rfl
@[simp ↓] theorem wo_al (z : List V) : wo C e m x ds rv rd Q (⟨d, .al z, none⟩ :: r) = opK (alV z x) (OpK C d r e m x ds rv rd Q) := by rw [← o_al]; exact WO_d _ _ _ _ _ _ _ _ _ _ rfl
@[simp ↓] theorem wa_al (z : List V) : wa C e m x ds rv rd ts R (⟨d, .al z, none⟩ :: r) = opK (alV z x) (AOpK C d r e m x ds rv rd ([x]) noI ts R) := by rw [← o_al]; exact WA_d _ _ _ _ _ _ _ _ _ _ _ rfl
@[simp ↓] theorem wo_bx (a : Opd) : wo C e m x ds rv rd Q (⟨d, .bx a, none⟩ :: r) = opK (bxV (a.ev e) x) (OpK C d r e m x ds rv rd Q) := by rw [← o_bx]; exact WO_d _ _ _ _ _ _ _ _ _ _ rfl
@[simp ↓] theorem wo_bd (z : List V) (ps : List (Nat × Nat × Opd)) : wo C e m x ds rv rd Q (⟨d, .bd z ps, none⟩ :: r) = opK (bdV (fill e z ps)) (OpK C d r e m x ds rv rd Q) := by rw [← o_bd]; exact WO_d _ _ _ _ _ _ _ _ _ _ rfl
@[simp ↓] theorem wa_bd (z : List V) (ps : List (Nat × Nat × Opd)) : wa C e m x ds rv rd ts R (⟨d, .bd z ps, none⟩ :: r) = opK (bdV (fill e z ps)) (AOpK C d r e m x ds rv rd ([]) noI ts R) := by rw [← o_bd]; exact WA_d _ _ _ _ _ _ _ _ _ _ _ rfl
@[simp ↓] theorem wo_bs (esz n : Nat) (z : List V) (ps : List (Nat × Nat × Opd)) : wo C e m x ds rv rd Q (⟨d, .bs esz (n + 1) z ps, none⟩ :: r) = opK (bsV esz (n + 1) (fill e (zeros z (n + 1)) ps) x) (OpK C d r e m x ds rv rd Q) := by rw [← o_bs]; exact WO_d _ _ _ _ _ _ _ _ _ _ rfl
@[simp ↓] theorem wo_ld (ag : Bool) (n : Nat) (a : Opd) : wo C e m x ds rv rd Q (⟨d, .ld ag n a, none⟩ :: r) = opK (ldV m ag n (a.ev e)) (OpK C d r e m x ds rv rd Q) := by rw [← o_ld]; exact WO_d _ _ _ _ _ _ _ _ _ _ rfl
@[simp ↓] theorem wa_ld (ag : Bool) (n : Nat) (a : Opd) : wa C e m x ds rv rd ts R (⟨d, .ld ag n a, none⟩ :: r) = opK (ldV m ag n (a.ev e)) (AOpK C d r e m x ds rv rd (refOf (a.ev e)) (ldF (a.ev e) ag n) ts R) := by rw [← o_ld]; exact WA_d _ _ _ _ _ _ _ _ _ _ _ rfl
@[simp ↓] theorem wo_st (n : Nat) (a b : Opd) : wo C e m x ds rv rd Q (⟨d, .st n a b, none⟩ :: r) = opK (stV m n (a.ev e) (b.ev e)) (OpK C d r e m x ds rv rd Q) := by rw [← o_st]; exact WO_d _ _ _ _ _ _ _ _ _ _ rfl
@[simp ↓] theorem wa_st (n : Nat) (a b : Opd) : wa C e m x ds rv rd ts R (⟨d, .st n a b, none⟩ :: r) = opK (stV m n (a.ev e) (b.ev e)) (AOpK C d r e m x ds rv rd (x :: (refOf (a.ev e))) noI ts R) := by rw [← o_st]; exact WA_d _ _ _ _ _ _ _ _ _ _ _ rfl
@[simp ↓] theorem wo_nc (a : Opd) : wo C e m x ds rv rd Q (⟨d, .nc a, none⟩ :: r) = opK (ncV (a.ev e)) (OpK C d r e m x ds rv rd Q) := by rw [← o_nc]; exact WO_d _ _ _ _ _ _ _ _ _ _ rfl
@[simp ↓] theorem wa_nc (a : Opd) : wa C e m x ds rv rd ts R (⟨d, .nc a, none⟩ :: r) = opK (ncV (a.ev e)) (AOpK C d r e m x ds rv rd ([]) noI ts R) := by rw [← o_nc]; exact WA_d _ _ _ _ _ _ _ _ _ _ _ rfl
@[simp ↓] theorem wo_bi (op : BinOp) (a b : Opd) : wo C e m x ds rv rd Q (⟨d, .bi op a b, none⟩ :: r) = opK (noW (bin op (a.ev e) (b.ev e))) (OpK C d r e m x ds rv rd Q) := by rw [← o_bi]; exact WO_d _ _ _ _ _ _ _ _ _ _ rfl
@[simp ↓] theorem wa_bi (op : BinOp) (a b : Opd) : wa C e m x ds rv rd ts R (⟨d, .bi op a b, none⟩ :: r) = opK (noW (bin op (a.ev e) (b.ev e))) (AOpK C d r e m x ds rv rd ([]) noI ts R) := by rw [← o_bi]; exact WA_d _ _ _ _ _ _ _ _ _ _ _ rfl
@[simp ↓] theorem wo_eq (neg : Bool) (q : Pi.Q) (a b : Opd) : wo C e m x ds rv rd Q (⟨d, .eq neg q a b, none⟩ :: r) = opK (eqW (eqQ q (a.ev e) (b.ev e)) neg) (OpK C d r e m x ds rv rd Q) := by rw [← o_eq]; exact WO_d _ _ _ _ _ _ _ _ _ _ rfl
@[simp ↓] theorem wo_un (op : UnOp) (a : Opd) : wo C e m x ds rv rd Q (⟨d, .un op a, none⟩ :: r) = opK (noW (una op (a.ev e))) (OpK C d r e m x ds rv rd Q) := by rw [← o_un]; exact WO_d _ _ _ _ _ _ _ _ _ _ rfl
@[simp ↓] theorem wo_ci (k : IntKind) (a : Opd) : wo C e m x ds rv rd Q (⟨d, .ci k a, none⟩ :: r) = opK (ciV k (a.ev e)) (OpK C d r e m x ds rv rd Q) := by rw [← o_ci]; exact WO_d _ _ _ _ _ _ _ _ _ _ rfl
@[simp ↓] theorem wa_ci (k : IntKind) (a : Opd) : wa C e m x ds rv rd ts R (⟨d, .ci k a, none⟩ :: r) = opK (ciV k (a.ev e)) (AOpK C d r e m x ds rv rd ([]) noI ts R) := by rw [← o_ci]; exact WA_d _ _ _ _ _ _ _ _ _ _ _ rfl
@[simp ↓] theorem wo_mf (g : FuncId) (a c : List Opd) : wo C e m x ds rv rd Q (⟨d, .mf (.func g) a c, none⟩ :: r) = opK (mfV g (evL e a) (evL e c)) (OpK C d r e m x ds rv rd Q) := by rw [← o_mf]; exact WO_d _ _ _ _ _ _ _ _ _ _ rfl
@[simp ↓] theorem wo_mk (esz : Nat) (z : List V) (a b : Opd) : wo C e m x ds rv rd Q (⟨d, .mk esz z a b, none⟩ :: r) = opK (mkV esz z (a.ev e) (b.ev e) x) (OpK C d r e m x ds rv rd Q) := by rw [← o_mk]; exact WO_d _ _ _ _ _ _ _ _ _ _ rfl
@[simp ↓] theorem wa_mk (esz : Nat) (z : List V) (a b : Opd) : wa C e m x ds rv rd ts R (⟨d, .mk esz z a b, none⟩ :: r) = opK (mkV esz z (a.ev e) (b.ev e) x) (AOpK C d r e m x ds rv rd ([x]) noI ts R) := by rw [← o_mk]; exact WA_d _ _ _ _ _ _ _ _ _ _ _ rfl
@[simp ↓] theorem wo_sv (esz : Nat) (a : Opd) (lo hi : Option Opd) : wo C e m x ds rv rd Q (⟨d, .sv esz a lo hi none, none⟩ :: r) = opK (svV esz (a.ev e) (evO e lo) (evO e hi)) (OpK C d r e m x ds rv rd Q) := by rw [← o_sv]; exact WO_d _ _ _ _ _ _ _ _ _ _ rfl
@[simp ↓] theorem wa_sv (esz : Nat) (a : Opd) (lo hi : Option Opd) : wa C e m x ds rv rd ts R (⟨d, .sv esz a lo hi none, none⟩ :: r) = opK (svV esz (a.ev e) (evO e lo) (evO e hi)) (AOpK C d r e m x ds rv rd (refOf (a.ev e)) noI ts R) := by rw [← o_sv]; exact WA_d _ _ _ _ _ _ _ _ _ _ _ rfl
@[simp ↓] theorem wo_sa (n esz : Nat) (a : Opd) (lo hi : Option Opd) : wo C e m x ds rv rd Q (⟨d, .sa n esz a lo hi, none⟩ :: r) = opK (saV m n esz (a.ev e) (evO e lo) (evO e hi)) (OpK C d r e m x ds rv rd Q) := by rw [← o_sa]; exact WO_d _ _ _ _ _ _ _ _ _ _ rfl
@[simp ↓] theorem wa_sa (n esz : Nat) (a : Opd) (lo hi : Option Opd) : wa C e m x ds rv rd ts R (⟨d, .sa n esz a lo hi, none⟩ :: r) = opK (saV m n esz (a.ev e) (evO e lo) (evO e hi)) (AOpK C d r e m x ds rv rd (refOf (a.ev e)) noI ts R) := by rw [← o_sa]; exact WA_d _ _ _ _ _ _ _ _ _ _ _ rfl
@[simp ↓] theorem wo_fa (off : Nat) (a : Opd) : wo C e m x ds rv rd Q (⟨d, .fa off a, none⟩ :: r) = opK (faV off (a.ev e)) (OpK C d r e m x ds rv rd Q) := by rw [← o_fa]; exact WO_d _ _ _ _ _ _ _ _ _ _ rfl
@[simp ↓] theorem wa_fa (off : Nat) (a : Opd) : wa C e m x ds rv rd ts R (⟨d, .fa off a, none⟩ :: r) = opK (faV off (a.ev e)) (AOpK C d r e m x ds rv rd ([]) noI ts R) := by rw [← o_fa]; exact WA_d _ _ _ _ _ _ _ _ _ _ _ rfl
@[simp ↓] theorem wa_fe (ag : Bool) (off n : Nat) (a : Opd) : wa C e m x ds rv rd ts R (⟨d, .fe ag off n a, none⟩ :: r) = opK (feV ag off n (a.ev e)) (AOpK C d r e m x ds rv rd ([]) noI ts R) := by rw [← o_fe]; exact WA_d _ _ _ _ _ _ _ _ _ _ _ rfl
@[simp ↓] theorem wo_ia (esz : Nat) (a j : Opd) : wo C e m x ds rv rd Q (⟨d, .ia esz a j, none⟩ :: r) = opK (iaV esz (a.ev e) (j.ev e)) (OpK C d r e m x ds rv rd Q) := by rw [← o_ia]; exact WO_d _ _ _ _ _ _ _ _ _ _ rfl
@[simp ↓] theorem wa_ia (esz : Nat) (a j : Opd) : wa C e m x ds rv rd ts R (⟨d, .ia esz a j, none⟩ :: r) = opK (iaV esz (a.ev e) (j.ev e)) (AOpK C d r e m x ds rv rd ([]) noI ts R) := by rw [← o_ia]; exact WA_d _ _ _ _ _ _ _ _ _ _ _ rfl
@[simp ↓] theorem wo_iz (len esz : Nat) (a j : Opd) : wo C e m x ds rv rd Q (⟨d, .iz len esz a j, none⟩ :: r) = opK (izV len esz (a.ev e) (j.ev e)) (OpK C d r e m x ds rv rd Q) := by rw [← o_iz]; exact WO_d _ _ _ _ _ _ _ _ _ _ rfl
@[simp ↓] theorem wa_iz (len esz : Nat) (a j : Opd) : wa C e m x ds rv rd ts R (⟨d, .iz len esz a j, none⟩ :: r) = opK (izV len esz (a.ev e) (j.ev e)) (AOpK C d r e m x ds rv rd ([]) noI ts R) := by rw [← o_iz]; exact WA_d _ _ _ _ _ _ _ _ _ _ _ rfl
@[simp ↓] theorem wa_lk (q : Pi.Q) (z : V) (mm k : Opd) (ok : Bool) : wa C e m x ds rv rd ts R (⟨d, .lk q z mm k ok, none⟩ :: r) = opK (lkV m q z (mm.ev e) (k.ev e) ok) (AOpK C d r e m x ds rv rd (refOf (mm.ev e)) noI ts R) := by rw [← o_lk]; exact WA_d _ _ _ _ _ _ _ _ _ _ _ rfl
@[simp ↓] theorem wo_ex (a : Opd) (j : Nat) : wo C e m x ds rv rd Q (⟨d, .ex a j, none⟩ :: r) = opK (exV (a.ev e) j) (OpK C d r e m x ds rv rd Q) := by rw [← o_ex]; exact WO_d _ _ _ _ _ _ _ _ _ _ rfl
@[simp ↓] theorem wa_ex (a : Opd) (j : Nat) : wa C e m x ds rv rd ts R (⟨d, .ex a j, none⟩ :: r) = opK (exV (a.ev e) j) (AOpK C d r e m x ds rv rd ([]) noI ts R) := by rw [← o_ex]; exact WA_d _ _ _ _ _ _ _ _ _ _ _ rfl
@[simp ↓] theorem wo_ln (k : LK) (a : Opd) : wo C e m x ds rv rd Q (⟨d, .ln k a, none⟩ :: r) = opK (lnV m k (a.ev e)) (OpK C d r e m x ds rv rd Q) := by rw [← o_ln]; exact WO_d _ _ _ _ _ _ _ _ _ _ rfl
@[simp ↓] theorem wa_ln (k : LK) (a : Opd) : wa C e m x ds rv rd ts R (⟨d, .ln k a, none⟩ :: r) = opK (lnV m k (a.ev e)) (AOpK C d r e m x ds rv rd (refOf (a.ev e)) noI ts R) := by rw [← o_ln]; exact WA_d _ _ _ _ _ _ _ _ _ _ _ rfl
@[simp ↓] theorem wo_ap (esz : Nat) (s a : Opd) : wo C e m x ds rv rd Q (⟨d, .ap esz s a, none⟩ :: r) = opK (apK (apCells m esz (a.ev e)) (lenV m (a.ev e)) m esz (s.ev e) x) (OpK C d r e m x ds rv rd Q) := by rw [← o_ap]; exact WO_d _ _ _ _ _ _ _ _ _ _ rfl
@[simp ↓] theorem wo_an (esz : Nat) (z : List V) (a b : Opd) : wo C e m x ds rv rd Q (⟨d, .an esz z a b, none⟩ :: r) = opK (anV esz z (a.ev e) (b.ev e) x) (OpK C d r e m x ds rv rd Q) := by rw [← o_an]; exact WO_d _ _ _ _ _ _ _ _ _ _ rfl
@[simp ↓] theorem wo_cp (esz : Nat) (v a : Opd) : wo C e m x ds rv rd Q (⟨d, .cp esz v a, none⟩ :: r) = opK (cpK (apCells m esz (a.ev e)) (lenV m (a.ev e)) m esz (v.ev e)) (OpK C d r e m x ds rv rd Q) := by rw [← o_cp]; exact WO_d _ _ _ _ _ _ _ _ _ _ rfl
@[simp ↓] theorem wa_cp (esz : Nat) (v a : Opd) : wa C e m x ds rv rd ts R (⟨d, .cp esz v a, none⟩ :: r) = opK (cpK (apCells m esz (a.ev e)) (lenV m (a.ev e)) m esz (v.ev e)) (AOpK C d r e m x ds rv rd (x :: (refOf (v.ev e) ++ refOf (a.ev e))) noI ts R) := by rw [← o_cp]; exact WA_d _ _ _ _ _ _ _ _ _ _ _ rfl
@[simp ↓] theorem wo_mx (l : List Opd) : wo C e m x ds rv rd Q (⟨d, .mx l, none⟩ :: r) = opK (mxV max2 (evL e l)) (OpK C d r e m x ds rv rd Q) := by rw [← o_mx]; exact WO_d _ _ _ _ _ _ _ _ _ _ rfl
@[simp ↓] theorem wa_mx (l : List Opd) : wa C e m x ds rv rd ts R (⟨d, .mx l, none⟩ :: r) = opK (mxV max2 (evL e l)) (AOpK C d r e m x ds rv rd ([]) noI ts R) := by rw [← o_mx]; exact WA_d _ _ _ _ _ _ _ _ _ _ _ rfl
end
end Pi


/- Rules for proofs: what a function leaves, what is frozen, lists as slices. -/
namespace Pi
open Go (IntKind TypeId FuncId Fn BinOp UnOp LoopState)

attribute [simp] apartAll apart2
/-! What a function leaves. -/
def resK (o : Option V) (k : V → Prop) : Prop := match o with | some v => k v | none => False
@[simp ↓] theorem resK_some (v : V) (k : V → Prop) : resK (some v) k = k v := (rfl)
@[congr] theorem resK_congr {o o' : Option V} {k : V → Prop} (h : o = o') : resK o k = resK o' k := by rw [h]
def FrzW (w : V) (o : Option (V × List Nat)) : Prop := o.map Prod.fst = some w
@[simp] theorem FrzW_some (w v : V) (ids : List Nat) : FrzW w (some (v, ids)) = (v = w) := by simp [FrzW]
def DnK (rs : List RVar) (e : Env) (w : V) : List D → Sto → Prop
  | [], m => resK (result e m rs) fun v => FrzW w (freeze m v)
  | .mark l :: r, m => m l = some .dfr ∧ DnK rs e w r (m.set l none)
  | .call _ _ :: _, _ => False
@[simp ↓] theorem DnK_nil (rs : List RVar) (e : Env) (w : V) (m : Sto) : DnK rs e w [] m = resK (result e m rs) fun v => FrzW w (freeze m v) := (rfl)
@[simp ↓] theorem DnK_mark (rs : List RVar) (e : Env) (w : V) (m : Sto) (l : Nat) (r : List D) : DnK rs e w (.mark l :: r) m = (m l = some .dfr ∧ DnK rs e w r (m.set l none)) := (rfl)
theorem DnK_done {rs : List RVar} {e : Env} {w : V} : ∀ {ds : List D} {m : Sto}, DnK rs e w ds m → DoneD rs e ds m (Frz w)
  | [], m, h => by
    simp only [DnK] at h
    cases hr : result e m rs with
    | none => rw [hr] at h; exact h.elim
    | some v =>
      rw [hr] at h
      simp only [resK, FrzW] at h
      obtain ⟨⟨a, ids⟩, h1, h2⟩ := Option.map_eq_some_iff.1 h
      simp only at h2
      subst h2
      exact ⟨v, hr, ids, h1⟩
  | .mark l :: r, m, h => ⟨h.1, DnK_done h.2⟩
  | .call _ _ :: _, _, h => h.elim
def FinK (rs : List RVar) (w : V) : X → S → Prop := fun xx s => (xx = .ret ∨ xx = .nor) ∧ DnK rs s.e w s.ds s.m
@[simp ↓] theorem FinK_ret (rs : List RVar) (w : V) (e : Env) (m : Sto) (x : Nat) (ds : List D) (rv : Option V) (rd : Option Nat) : FinK rs w .ret ⟨e, m, x, ds, rv, rd⟩ = DnK rs e w ds m := by simp [FinK]
theorem ans {C : Ctx} {g : Nat} {F : PFun} {vs : List V} {w : V} (hF : C.fns g = some F) (h : Pi.w C (envOf vs) (fun _ => none) 0 [] none none (FinK F.rs w) F.code) : Ans C g vs w :=
  ans_fin hF (W_wp (fun xx s hq => ⟨hq.1, DnK_done hq.2⟩) h)

@[simp ↓] theorem result_one (e : Env) (m : Sto) (r : RVar) : result e m [r] = resV e m r := by
  unfold result
  simp only [resL]
  cases resV e m r <;> rfl
@[simp ↓] theorem result_nil (e : Env) (m : Sto) : result e m [] = some (.tu []) := (rfl)
def tuR (o : Option (List V)) : Option V := o.map .tu
@[simp] theorem tuR_some (l : List V) : tuR (some l) = some (.tu l) := (rfl)
@[simp ↓] theorem result_two (e : Env) (m : Sto) (a b : RVar) (l : List RVar) : result e m (a :: b :: l) = tuR (resL e m (a :: b :: l)) := by
  unfold result tuR
  cases h : resL e m (a :: b :: l) with
  | none => rfl
  | some q =>
    simp only [resL] at h
    simp only [Option.map_some]
    cases h1 : resV e m a with
    | none => rw [h1] at h; cases h
    | some v =>
      cases h2 : resV e m b with
      | none => rw [h1, h2] at h; cases h
      | some u =>
        cases h3 : resL e m l with
        | none => rw [h1, h2, h3] at h; cases h
        | some t => rw [h1, h2, h3] at h; cases h; rfl
@[simp ↓] theorem resL_nil (e : Env) (m : Sto) : resL e m [] = some [] := (rfl)
def rlK (o : Option V) (p : Option (List V)) : Option (List V) := o.bind fun v => p.map fun l => v :: l
@[simp] theorem rlK_some (v : V) (l : List V) : rlK (some v) (some l) = some (v :: l) := (rfl)
@[simp ↓] theorem resL_cons (e : Env) (m : Sto) (r : RVar) (l : List RVar) : resL e m (r :: l) = rlK (resV e m r) (resL e m l) := (rfl)
@[simp ↓] theorem resV_t (e : Env) (m : Sto) (n : Nat) : resV e m (.t n) = some (e n) := (rfl)
def rsO (o : Option PObj) (ag : Bool) (n off : Nat) : Option V := match o with | some (.cells cs _) => getPart ag n cs off | some (.lit cs) => getPart ag n cs off | _ => none
def rsV (m : Sto) (ag : Bool) (n : Nat) (v : V) : Option V := match v with | .p l off => rsO (m l) ag n off | _ => none
@[simp ↓] theorem resV_c (e : Env) (m : Sto) (a : Nat) (ag : Bool) (n : Nat) : resV e m (.c a ag n) = rsV m ag n (e a) := (rfl)
@[congr] theorem rsV_congr {m : Sto} {ag : Bool} {n : Nat} {v v' : V} (h : v = v') : rsV m ag n v = rsV m ag n v' := by rw [h]
@[simp] theorem rsV_p (m : Sto) (ag : Bool) (n l off : Nat) : rsV m ag n (.p l off) = rsO (m l) ag n off := (rfl)
@[simp] theorem rsO_cells (cs : List V) (ro ag : Bool) (n off : Nat) : rsO (some (.cells cs ro)) ag n off = getPart ag n cs off := (rfl)

/-! Freezing. -/
section
variable (D : Nat → Option (Bool × List V × List V × List Nat))
def derO (o : Option PObj) : Option (Bool × List V × List V × List Nat) := match o with
  | some (.cells cs _) => (frzL D cs).bind fun x => some (false, x.1, [], x.2)
  | some (.lit cs) => (frzL D cs).bind fun x => some (false, x.1, [], x.2)
  | some (.map ks vs _) => (frzL D ks).bind fun x => (frzL D vs).bind fun y => some (true, x.1, y.1, x.2 ++ y.2)
  | _ => none
@[congr] theorem derO_congr {o o' : Option PObj} (h : o = o') : derO D o = derO D o' := by rw [h]
@[simp ↓] theorem derO_cells (cs : List V) (ro : Bool) : derO D (some (.cells cs ro)) = (frzL D cs).bind fun x => some (false, x.1, [], x.2) := (rfl)
theorem der_s (m : Sto) (n l : Nat) : der m (n + 1) l = derO (der m n) (m l) := by
  rw [der.eq_2]
  unfold derO
  rfl
@[simp ↓] theorem der_24 (m : Sto) (l : Nat) : der m 40 l = derO (der m 39) (m l) := der_s m 39 l
@[simp ↓] theorem der_23 (m : Sto) (l : Nat) : der m 39 l = derO (der m 38) (m l) := der_s m 38 l
@[simp ↓] theorem freeze_eq (m : Sto) (v : V) : freeze m v = frzW (der m 40) v := (rfl)
@[simp ↓] theorem freezeL_eq (m : Sto) (l : List V) : freezeL m l = frzL (der m 40) l := (rfl)
@[simp ↓] theorem frzW_b (c : Bool) : frzW D (.b c) = some (.b c, []) := by simp [frzW]
@[simp ↓] theorem frzW_i (k : IntKind) (n : Int) : frzW D (.i k n) = some (.i k n, []) := by simp [frzW]
@[simp ↓] theorem frzW_rp (cs : List V) : frzW D (.rp cs) = some (.rp cs, []) := by simp [frzW]
@[simp ↓] theorem frzW_ns : frzW D .ns = some (.sl [] 0, []) := by simp [frzW]
@[simp ↓] theorem frzW_sl (cs : List V) (n : Nat) : frzW D (.sl cs n) = some (.sl cs n, []) := by simp [frzW]
@[simp ↓] theorem frzW_p (l off : Nat) : frzW D (.p l off) = (D l).bind fun r => if r.1 then none else some (.rp (r.2.1.drop off), l :: r.2.2.2) := by simp [frzW]
@[simp ↓] theorem frzW_ms (l off n k : Nat) : frzW D (.ms l off n k) = (D l).bind fun r => if r.1 = false ∧ off + n * k ≤ r.2.1.length then some (.sl ((r.2.1.drop off).take (n * k)) n, l :: r.2.2.2) else none := by simp [frzW]
@[simp ↓] theorem frzW_fn (g : FuncId) (a c : List V) : frzW D (.fn (.func g) a c) = (frzL D a).bind fun x => (frzL D c).bind fun y => some (.fn (.func g) x.1 y.1, x.2 ++ y.2) := by simp [frzW]
@[simp ↓] theorem frzW_y (l : Nat) (a c : List V) : frzW D (.fn (.yield l) a c) = none := by simp [frzW]
@[simp ↓] theorem frzW_ag (cs : List V) : frzW D (.ag cs) = (frzL D cs).bind fun x => some (.ag x.1, x.2) := by simp [frzW]
@[simp ↓] theorem frzW_tu (cs : List V) : frzW D (.tu cs) = (frzL D cs).bind fun x => some (.tu x.1, x.2) := by simp [frzW]
@[simp ↓] theorem frzL_nil : frzL D [] = some ([], []) := by simp [frzL]
@[simp ↓] theorem frzL_cons (v : V) (r : List V) : frzL D (v :: r) = (frzW D v).bind fun x => (frzL D r).bind fun y => some (x.1 :: y.1, x.2 ++ y.2) := by simp [frzL]
theorem frzL_app (a b : List V) : frzL D (a ++ b) = (frzL D a).bind fun x => (frzL D b).bind fun y => some (x.1 ++ y.1, x.2 ++ y.2) := by
  induction a with
  | nil => cases h : frzL D b <;> simp [h]
  | cons v r ih =>
    simp only [List.cons_append, frzL_cons, ih]
    cases frzW D v with
    | none => rfl
    | some p =>
      cases frzL D r with
      | none => rfl
      | some q => cases frzL D b <;> simp
attribute [simp] frzL_app
@[congr] theorem frzL_congr {D : Nat → Option (Bool × List V × List V × List Nat)} {v v' : List V} (h : v = v') : frzL D v = frzL D v' := by rw [h]
end

/-! Lists as slices. -/
/-- How a thing fills its cells: so many; nothing in them lies in memory. -/
class Cel {α : Type} (f : α → List V) (k : outParam Nat) : Prop where
  len : ∀ a, (f a).length = k
  pos : 0 < k
  fz : ∀ a D, frzL D (f a) = some (f a, [])

section
variable {α : Type} {f : α → List V} {k : Nat}
def sV (f : α → List V) (l : List α) : V := .sl (l.flatMap f) l.length
theorem flat_len [h : Cel f k] (l : List α) : (l.flatMap f).length = l.length * k := by
  induction l with
  | nil => simp
  | cons a l ih => simp [h.len, ih, Nat.succ_mul, Nat.add_comm]
attribute [simp] flat_len
@[simp] theorem sl_sV (cs : List V) (n : Nat) (l : List α) : (V.sl cs n = sV f l) = (cs = l.flatMap f ∧ n = l.length) := by simp [sV]
theorem flat_drop [h : Cel f k] (l : List α) (i : Nat) : (l.flatMap f).drop (i * k) = (l.drop i).flatMap f := by
  induction i generalizing l with
  | zero => simp
  | succ i ih =>
    cases l with
    | nil => simp
    | cons a l =>
      rw [List.flatMap_cons, List.drop_append, h.len, List.drop_of_length_le (by rw [h.len, Nat.succ_mul]; omega), List.nil_append, Nat.succ_mul, Nat.add_sub_cancel, List.drop_succ_cons]
      exact ih l
theorem flat_take [h : Cel f k] (l : List α) (i : Nat) : (l.flatMap f).take (i * k) = (l.take i).flatMap f := by
  induction i generalizing l with
  | zero => simp
  | succ i ih =>
    cases l with
    | nil => simp
    | cons a l =>
      simp only [List.flatMap_cons, List.take_succ_cons]
      rw [List.take_append, h.len, List.take_of_length_le (by rw [h.len, Nat.succ_mul]; omega), Nat.succ_mul, Nat.add_sub_cancel, ih]
theorem flat_at [h : Cel f k] (l : List α) (i : Nat) {a : α} (ha : l[i]? = some a) : ((l.flatMap f).drop (i * k)).take k = f a := by
  rw [flat_drop]
  obtain ⟨hi, rfl⟩ := List.getElem?_eq_some_iff.1 ha
  rw [List.drop_eq_getElem_cons hi, List.flatMap_cons, List.take_append_of_le_length (by rw [h.len]; exact Nat.le_refl _), List.take_of_length_le (by rw [h.len]; exact Nat.le_refl _)]
theorem flat_takeall [h : Cel f k] (l : List α) : (l.flatMap f).take (l.length * k) = l.flatMap f := List.take_of_length_le (by rw [flat_len]; exact Nat.le_refl _)
@[simp] theorem frzL_flat [h : Cel f k] (D : Nat → Option (Bool × List V × List V × List Nat)) (l : List α) : frzL D (l.flatMap f) = some (l.flatMap f, []) := by
  induction l with
  | nil => simp
  | cons a l ih => rw [List.flatMap_cons, frzL_app, h.fz, ih]; rfl
@[simp] theorem frzW_sV (D : Nat → Option (Bool × List V × List V × List Nat)) (l : List α) : frzW D (sV f l) = some (sV f l, []) := by simp [sV]
@[simp] theorem lenSl_sV (l : List α) : lenSl (sV f l) = some l.length := (rfl)
@[simp] theorem lenV_sV (m : Sto) (l : List α) : lenV m (sV f l) = some l.length := (rfl)
@[simp] theorem slCells_sV [h : Cel f k] (m : Sto) (l : List α) : slCells m k (sV f l) = some (l.flatMap f) := by
  unfold sV
  exact slCells_sl m k _ _ (flat_len l)
@[simp] theorem apCells_sV [h : Cel f k] (m : Sto) (l : List α) : apCells m k (sV f l) = some (l.flatMap f) := slCells_sV m l
@[simp] theorem stor_sV (l : List α) : (sV f l).stor = true := (rfl)
@[simp] theorem cells_sV (l : List α) : (sV f l).cells = [sV f l] := (rfl)
@[simp] theorem refOf_sV (l : List α) : refOf (sV f l) = [] := (rfl)
def rpK (f : α → List V) : Option α → Option (V × Ws)
  | some a => some (.rp (f a), [])
  | none => none
@[simp] theorem rpK_some (a : α) : rpK f (some a) = some (.rp (f a), []) := (rfl)
@[simp] theorem iaV_sV [h : Cel f k] (l : List α) (q : IntKind) (n : Int) (hn : 0 ≤ n) : iaV k (sV f l) (.i q n) = rpK f l[n.toNat]? := by
  unfold sV
  rw [iaV_sl]
  by_cases hl : n < l.length
  · have hi : n.toNat < l.length := by omega
    rw [if_pos ⟨hn, hl⟩, List.getElem?_eq_getElem hi, flat_at l n.toNat (List.getElem?_eq_getElem hi)]
    rfl
  · rw [if_neg (by omega), List.getElem?_eq_none (by omega)]
    rfl
/-- Cells that begin with a list's. -/
structure Rm (f : α → List V) (k : Nat) (l : List α) (cs : List V) : Prop where
  le : l.length * k ≤ cs.length
  eq : cs.take (l.length * k) = l.flatMap f
  fz : ∀ D, frzL D cs = some (cs, [])
theorem Rm.full [Cel f k] (l : List α) : Rm f k l (l.flatMap f) := ⟨by rw [flat_len]; exact Nat.le_refl _, flat_takeall l, fun D => frzL_flat D l⟩
theorem Rm.cut [Cel f k] {l : List α} {cs : List V} (h : Rm f k l cs) {n : Nat} (hn : n ≤ l.length) : Rm f k (l.take n) cs := by
  have e : (l.take n).length = n := by rw [List.length_take]; omega
  have hle : n * k ≤ l.length * k := Nat.mul_le_mul_right k hn
  refine ⟨by rw [e]; exact Nat.le_trans hle h.le, ?_, h.fz⟩
  rw [e, ← flat_take, ← h.eq, List.take_take, Nat.min_eq_left hle]
/-- A list that is being made: not there yet, or in memory from 'lo' on, below 'x', perhaps with room behind it. -/
def Bf (m : Sto) (B : V) (f : α → List V) (k : Nat) (l : List α) (lo x : Nat) : Prop :=
  (B = .ns ∧ l = []) ∨ ∃ a cs, B = .ms a 0 l.length k ∧ m a = some (.cells cs false) ∧ Rm f k l cs ∧ lo ≤ a ∧ a < x
theorem Bf.nil {m : Sto} {lo x : Nat} : Bf m .ns f k [] lo x := .inl ⟨rfl, rfl⟩
theorem Bf.memr {m : Sto} {l : List α} {a n lo x : Nat} {cs : List V} (h : m a = some (.cells cs false)) (hc : Rm f k l cs) (hn : n = l.length) (h1 : lo ≤ a) (h2 : a < x) : Bf m (.ms a 0 n k) f k l lo x :=
  .inr ⟨a, cs, by rw [hn], h, hc, h1, h2⟩
theorem Bf.mem [Cel f k] {m : Sto} {l : List α} {a n lo x : Nat} {cs : List V} (h : m a = some (.cells cs false)) (hc : cs = l.flatMap f) (hn : n = l.length) (h1 : lo ≤ a) (h2 : a < x) : Bf m (.ms a 0 n k) f k l lo x :=
  .memr h (hc ▸ .full l) hn h1 h2
theorem Bf.up {m m' : Sto} {B : V} {l : List α} {lo x x' : Nat} (h : Bf m B f k l lo x) (hx : x ≤ x') (hm : ∀ j, lo ≤ j → j < x → m' j = m j) : Bf m' B f k l lo x' := by
  rcases h with h | ⟨a, cs, h1, h2, hc, h3, h4⟩
  · exact .inl h
  · exact .inr ⟨a, cs, h1, by rw [hm a h3 h4, h2], hc, h3, by omega⟩
theorem Bf.to {m : Sto} {B : V} {l l' : List α} {lo x x' : Nat} (h : Bf m B f k l lo x) (hl : l = l') (hx : x ≤ x') : Bf m B f k l' lo x' := hl ▸ h.up hx (fun _ _ _ => rfl)
theorem Bf.low {m : Sto} {B : V} {l : List α} {lo lo' x : Nat} (h : Bf m B f k l lo x) (hl : lo' ≤ lo) : Bf m B f k l lo' x := by
  rcases h with h | ⟨a, cs, h1, h2, hc, h3, h4⟩
  · exact .inl h
  · exact .inr ⟨a, cs, h1, h2, hc, by omega, h4⟩
theorem Bf.fz [h : Cel f k] {m : Sto} {B : V} {l : List α} {lo x : Nat} (hB : Bf m B f k l lo x) (d : Nat) : frzW (der m (d + 1)) B = some (sV f l, refOf B) := by
  rcases hB with ⟨rfl, rfl⟩ | ⟨a, cs, rfl, h2, hc, h3, h4⟩
  · rw [frzW_ns]; rfl
  · rw [frzW_ms, der_s, h2, derO_cells, hc.fz]
    simp only [Option.bind_some, true_and, List.drop_zero, Nat.zero_add]
    rw [if_pos hc.le, hc.eq]
    rfl
theorem Bf.fz24 [h : Cel f k] {m : Sto} {B : V} {l : List α} {lo x : Nat} (hB : Bf m B f k l lo x) : frzW (der m 40) B = some (sV f l, refOf B) := hB.fz 39
theorem Bf.len {m : Sto} {B : V} {l : List α} {lo x : Nat} (hB : Bf m B f k l lo x) : lenSl B = some l.length := by
  rcases hB with ⟨rfl, rfl⟩ | ⟨a, cs, rfl, h2, h3, h4⟩ <;> rfl
theorem Bf.stor {m : Sto} {B : V} {l : List α} {lo x : Nat} (hB : Bf m B f k l lo x) : B.stor = true := by
  rcases hB with ⟨rfl, rfl⟩ | ⟨a, cs, rfl, h2, h3, h4⟩ <;> rfl
theorem Bf.cells {m : Sto} {B : V} {l : List α} {lo x : Nat} (hB : Bf m B f k l lo x) : B.cells = [B] := by
  rcases hB with ⟨rfl, rfl⟩ | ⟨a, cs, rfl, h2, h3, h4⟩ <;> rfl
theorem Bf.sl [h : Cel f k] {m m' : Sto} {B : V} {l : List α} {lo x : Nat} (hB : Bf m B f k l lo x) (hm : ∀ j, lo ≤ j → j < x → m' j = m j) : slCells m' k B = some (l.flatMap f) := by
  rcases hB with ⟨rfl, rfl⟩ | ⟨a, cs, rfl, h2, hc, h3, h4⟩
  · rfl
  · rw [slCells_ms, hm a h3 h4, h2, slO_cells, if_pos ⟨rfl, by rw [Nat.zero_add]; exact hc.le⟩, List.drop_zero, hc.eq]
/-- What is put behind it. -/
theorem Bf.ap0 [h : Cel f k] {m m' : Sto} {B : V} {l l' : List α} {lo x slot : Nat} {K : V → Ws → Prop} {xs : List V} {n : Nat} (hB : Bf m B f k l lo x) (hm : ∀ j, lo ≤ j → j < x → m' j = m j) (hx : x ≤ slot) (hlo : lo ≤ x)
    (hxs : xs = l'.flatMap f) (hn : n = l'.length) (hl : l.length + l'.length ≤ BIG)
    (hK : ∀ B' ws, Bf (m'.app ws) B' f k (l ++ l') lo (slot + 1) → (∀ j, j < lo → m'.app ws j = m' j) → (∀ j, x ≤ j → j < slot → m'.app ws j = m' j) → K B' ws) : opK (apV m' k B xs n slot) K := by
  subst hxs hn
  rcases hB with ⟨rfl, rfl⟩ | ⟨a, cs, rfl, h2, hc, h3, h4⟩
  · rw [apV_ns]
    by_cases h0 : l'.length = 0
    · rw [if_pos h0]
      obtain rfl := List.length_eq_zero_iff.1 h0
      exact hK _ _ .nil (fun j _ => rfl) (fun j _ _ => rfl)
    · rw [if_neg h0, if_pos (by simpa using hl)]
      refine hK _ _ (.mem (cs := l'.flatMap f) (by simp) (by simp) (by simp) (by omega) (by omega)) (fun j hj => ?_) (fun j hj1 hj2 => ?_)
      · rw [sapp_cons, sapp_nil, Sto.sne _ _ _ _ (by simp only; omega)]
      · rw [sapp_cons, sapp_nil, Sto.sne _ _ _ _ (by simp only; omega)]
  · rw [apV_ms]
    by_cases h0 : l'.length = 0
    · rw [if_pos h0]
      obtain rfl := List.length_eq_zero_iff.1 h0
      exact hK _ _ (.inr ⟨a, cs, by simp, by rw [sapp_nil, hm a h3 h4, h2], by simpa using hc, h3, by omega⟩) (fun j _ => rfl) (fun j _ _ => rfl)
    · rw [if_neg h0, hm a h3 h4, h2, apO_cells, if_pos ⟨rfl, hc.le, hl⟩, hc.eq]
      refine hK _ _ (.mem (a := slot) ?_ rfl (by simp) (by omega) (by omega)) (fun j hj => ?_) (fun j hj1 hj2 => ?_)
      · rw [sapp_cons, sapp_cons, sapp_nil, Sto.seq, List.flatMap_append]
      · rw [sapp_cons, sapp_cons, sapp_nil, Sto.sne _ _ _ _ (by simp only; omega), Sto.sne _ _ _ _ (by simp only; omega)]
      · rw [sapp_cons, sapp_cons, sapp_nil, Sto.sne _ _ _ _ (by simp only; omega), Sto.sne _ _ _ _ (by simp only; omega)]
/-- What is put behind it, with the memory then as a letter. -/
theorem Bf.ap [h : Cel f k] {m m' : Sto} {B : V} {l : List α} (l' : List α) {lo x slot : Nat} {K : V → Ws → Prop} {xs : List V} {n : Nat} (hB : Bf m B f k l lo x) (hm : ∀ j, lo ≤ j → j < x → m' j = m j) (hx : x ≤ slot) (hlo : lo ≤ x)
    (hxs : xs = l'.flatMap f) (hn : n = l'.length) (hl : l.length + l'.length ≤ 2147483648)
    (hK : ∀ B' ws m2, m'.app ws = m2 → Bf m2 B' f k (l ++ l') lo (slot + 1) → (∀ j, j < lo → m2 j = m' j) → (∀ j, x ≤ j → j < slot → m2 j = m' j) → K B' ws) : opK (apV m' k B xs n slot) K :=
  Bf.ap0 hB hm hx hlo hxs hn hl fun B' ws q1 q2 q3 => hK B' ws _ rfl q1 q2 q3
end

theorem map_take_succ {α β : Type} {g : α → β} {l : List α} {i : Nat} (h : i < l.length) : (l.take i).map g ++ [g l[i]] = (l.map g).take (i + 1) := by
  rw [← List.map_take, List.take_succ_eq_append_getElem h, List.map_append]
  rfl

/-! What cells in memory come to, frozen: only memory from 'lo' on, below 'x', is looked at. -/
def FzAt (m : Sto) (lo x k : Nat) (cs out : List V) : Prop := ∀ m' : Sto, (∀ j, lo ≤ j → j < x → m' j = m j) → ∀ d, k ≤ d → ∃ ids, frzL (der m' d) cs = some (out, ids)
theorem FzAt.up {m m' : Sto} {lo x x' k k' : Nat} {cs out : List V} (h : FzAt m lo x k cs out) (hx : x ≤ x') (hk : k ≤ k') (hm : ∀ j, lo ≤ j → j < x → m' j = m j) : FzAt m' lo x' k' cs out :=
  fun m2 h2 d hd => h m2 (fun j h3 h4 => (h2 j h3 (by omega)).trans (hm j h3 h4)) d (by omega)
theorem FzAt.app {m : Sto} {lo x k : Nat} {a b oa ob : List V} (h : FzAt m lo x k a oa) (h' : FzAt m lo x k b ob) : FzAt m lo x k (a ++ b) (oa ++ ob) := by
  intro m' hm d hd
  obtain ⟨i1, e1⟩ := h m' hm d hd
  obtain ⟨i2, e2⟩ := h' m' hm d hd
  exact ⟨i1 ++ i2, by rw [frzL_app, e1, e2]; rfl⟩
theorem FzAt.cons {m : Sto} {lo x k : Nat} {v ov : V} {b ob : List V} (h : FzAt m lo x k [v] [ov]) (h' : FzAt m lo x k b ob) : FzAt m lo x k (v :: b) (ov :: ob) := h.app h'
theorem FzAt.ms {m m' : Sto} {lo x x' k a n esz : Nat} {cs out : List V} {ro : Bool} (h : FzAt m lo x k cs out) (hm : ∀ j, lo ≤ j → j < x → m' j = m j) (ha : m' a = some (.cells cs ro)) (h1 : lo ≤ a) (h2 : a < x') (hx : x ≤ x') (hl : out.length = n * esz) :
    FzAt m' lo x' (k + 1) [.ms a 0 n esz] [.sl out n] := by
  intro m2 h3 d hd
  obtain ⟨d, rfl⟩ : ∃ e, d = e + 1 := ⟨d - 1, by omega⟩
  obtain ⟨ids, e1⟩ := h m2 (fun j h4 h5 => (h3 j h4 (by omega)).trans (hm j h4 h5)) d (by omega)
  refine ⟨a :: ids ++ [], ?_⟩
  rw [frzL_cons, frzW_ms, der_s, h3 a h1 h2, ha, derO_cells, e1]
  simp only [Option.bind_some, true_and, List.drop_zero, Nat.zero_add, frzL_nil]
  rw [if_pos (by omega), List.take_of_length_le (by omega)]
  rfl
theorem FzAt.low {m : Sto} {lo lo' x k : Nat} {cs out : List V} (h : FzAt m lo x k cs out) (hl : lo' ≤ lo) : FzAt m lo' x k cs out := fun m' hm d hd => h m' (fun j h1 h2 => hm j (by omega) h2) d hd
theorem FzAt.fr {m : Sto} {lo x k : Nat} {cs : List V} (h : ∀ D, frzL D cs = some (cs, [])) : FzAt m lo x k cs cs := fun m' _ d _ => ⟨[], h _⟩
theorem FzAt.at {m : Sto} {lo x k : Nat} {cs out : List V} (h : FzAt m lo x k cs out) (d : Nat) (hd : k ≤ d) : ∃ ids, frzL (der m d) cs = some (out, ids) := h m (fun _ _ _ => rfl) d hd

/-! Numbers, truths as cells. -/
def cI (n : Int) : List V := [.i .i64 n]
def cB (c : Bool) : List V := [.b c]
def cU (n : Nat) : List V := [.i .u8 (n : Int)]
instance : Cel cI 1 := ⟨fun _ => rfl, by decide, fun a D => by simp [cI]⟩
instance : Cel cB 1 := ⟨fun _ => rfl, by decide, fun a D => by simp [cB]⟩
instance : Cel cU 1 := ⟨fun _ => rfl, by decide, fun a D => by simp [cU]⟩
/-! Texts. -/
def Byt (l : List Nat) : Prop := ∀ b ∈ l, b < 256
theorem Byt.nil : Byt [] := fun _ h => nomatch h
theorem Byt.app {a b : List Nat} (h : Byt a) (k : Byt b) : Byt (a ++ b) := fun c hc => (List.mem_append.1 hc).elim (h c) (k c)
theorem Byt.cons {a : Nat} {b : List Nat} (h : a < 256) (k : Byt b) : Byt (a :: b) := fun c hc => by
  rcases List.mem_cons.1 hc with rfl | hc
  · exact h
  · exact k c hc
theorem Byt.at {l : List Nat} (h : Byt l) {i : Nat} (hi : i < l.length) : l[i] < 256 := h _ (List.getElem_mem hi)
theorem Byt.drop {l : List Nat} (h : Byt l) (i : Nat) : Byt (l.drop i) := fun b hb => h b (List.mem_of_mem_drop hb)
theorem Byt.take {l : List Nat} (h : Byt l) (i : Nat) : Byt (l.take i) := fun b hb => h b (List.mem_of_mem_take hb)
@[simp] theorem cI_at (n : Int) : cI n = [.i .i64 n] := (rfl)
@[simp] theorem cB_at (c : Bool) : cB c = [.b c] := (rfl)
@[simp] theorem cU_at (n : Nat) : cU n = [.i .u8 (n : Int)] := (rfl)
end Pi


/- Rules for proofs: open calls, loops over functions, rounds. -/
namespace Pi
open Go (IntKind TypeId FuncId Fn BinOp UnOp LoopState)
section
variable {C : Ctx} {e : Env} {m : Sto} {x : Nat} {ds : List D} {rv : Option V} {rd : Option Nat} {Q : X → S → Prop}

/-- What holds of the slots, the memory, alone. -/
theorem gen_e (P : Env → Prop) {c : PCode} (h : P e) (k : ∀ E, P E → w C E m x ds rv rd Q c) : w C e m x ds rv rd Q c := k e h
/-- What a function in its caller's memory leaves. -/
def DnO (rs : List RVar) (e : Env) (x : Nat) (K : CR → Sto → Nat → Prop) : List D → Sto → Prop
  | [], m => resK (result e m rs) fun v => K (.ret v) m x
  | .mark l :: r, m => m l = some .dfr ∧ DnO rs e x K r (m.set l none)
  | .call _ _ :: _, _ => False
@[simp ↓] theorem DnO_nil (rs : List RVar) (K : CR → Sto → Nat → Prop) : DnO rs e x K [] m = resK (result e m rs) fun v => K (.ret v) m x := (rfl)
theorem DnO_done {rs : List RVar} {K : CR → Sto → Nat → Prop} : ∀ {ds : List D} {m : Sto}, DnO rs e x K ds m → DoneD rs e ds m (fun v m' => K (.ret v) m' x)
  | [], m, h => by
    simp only [DnO] at h
    cases hr : result e m rs with
    | none => rw [hr] at h; exact h.elim
    | some v => rw [hr] at h; exact ⟨v, hr, h⟩
  | .mark l :: r, m, h => ⟨h.1, DnO_done h.2⟩
  | .call _ _ :: _, _, h => h.elim
def RetK (rs : List RVar) (K : CR → Sto → Nat → Prop) : X → S → Prop := fun xx s => (xx = .ret ∨ xx = .nor) ∧ DnO rs s.e s.x K s.ds s.m
@[simp ↓] theorem RetK_ret (rs : List RVar) (K : CR → Sto → Nat → Prop) : RetK rs K .ret ⟨e, m, x, ds, rv, rd⟩ = DnO rs e x K ds m := by simp [RetK]
/-- An open call. -/
theorem open_w {g : Nat} {F : PFun} {first cap args : List V} {K : CR → Sto → Nat → Prop} (hF : C.fns g = some F) (hp : C.prim g = none) (ho : C.opn g = true ∨ freezeL m (first ++ args ++ cap) = none)
    (h : w C (envOf (first ++ args ++ cap)) m x [] none none (RetK F.rs K) F.code) (hq : C.frz g = false := by rfl) : wpCall C (.fn (.func g) first cap) args m x K :=
  wpCall_op hp ho hq hF (W_wp (fun xx s hq => ⟨hq.1, DnO_done hq.2⟩) h)

/-- Behind a loop over a function. -/
def RfK (e : Env) (x : Nat) (ds : List D) (rv : Option V) (rd : Option Nat) (Q : X → S → Prop) : CR → Sto → Nat → Prop := fun cr m' x' => match cr with
  | .pan v => Q (.pan v) ⟨e, m', x', .mark x :: ds, rv, rd⟩
  | .ret _ => ∃ q, m' (x + 1) = some (.loop q) ∧ q.st ≠ .busy ∧ Q (match q.pend with | none => .nor | some y => y) ⟨e, m'.set (x + 1) none, x', .mark x :: ds, rv, rd⟩
def lpK (o : Option PObj) (k : X → Prop) : Prop := match o with | some (.loop q) => q.st ≠ .busy ∧ k (q.pend.getD .nor) | _ => False
@[simp ↓] theorem lpK_ready (e : Env) (ps : List Nat) (a b : PCode) (pd : Option X) (k : X → Prop) : lpK (some (.loop ⟨e, ps, a, b, .ready, pd⟩)) k = k (pd.getD .nor) := by simp [lpK]
@[simp ↓] theorem lpK_done (e : Env) (ps : List Nat) (a b : PCode) (pd : Option X) (k : X → Prop) : lpK (some (.loop ⟨e, ps, a, b, .done, pd⟩)) k = k (pd.getD .nor) := by simp [lpK]
@[congr] theorem lpK_congr {o o' : Option PObj} {k : X → Prop} (h : o = o') : lpK o k = lpK o' k := by rw [h]
@[simp ↓] theorem RfK_ret (v : V) (m : Sto) (x' : Nat) : RfK e x ds rv rd Q (.ret v) m x' = lpK (m (x + 1)) fun y => Q y ⟨e, m.set (x + 1) none, x', .mark x :: ds, rv, rd⟩ := by
  unfold RfK lpK
  apply propext
  constructor
  · rintro ⟨q, h1, h2, h3⟩
    rw [h1]
    exact ⟨h2, by cases hp : q.pend <;> rw [hp] at h3 <;> exact h3⟩
  · intro h
    cases hm : m (x + 1) with
    | none => rw [hm] at h; exact h.elim
    | some o =>
      rw [hm] at h
      cases o with
      | loop q => exact ⟨q, rfl, h.1, by have := h.2; cases hp : q.pend <;> rw [hp] at this <;> exact this⟩
      | _ => exact h.elim
/-- A loop over a function. -/
theorem rf_w {f : Opd} {ps : List Nat} {a b : PCode} 
    (h : wpCall C (f.ev e) [.fn (.yield (x + 1)) [] []] ((m.set x (some .dfr)).set (x + 1) (some (.loop ⟨e, ps, a, b, .ready, none⟩))) (x + 2) (RfK e x ds rv none Q)) :
    w C e m x ds rv none Q (.rf f ps a b) := rf_ok rfl h

/-- Behind a round. -/
def YdK (ll : Nat) (K : CR → Sto → Nat → Prop) : X → S → Prop := fun z s => s.ds = [] ∧ match z with
  | .pan v => K (.pan v) s.m s.x
  | .nor => ∃ q, s.m ll = some (.loop q) ∧ K (.ret (.b true)) (s.m.set ll (some (.loop { q with st := .ready, pend := none }))) s.x
  | y => ∃ q, s.m ll = some (.loop q) ∧ K (.ret (.b false)) (s.m.set ll (some (.loop { q with st := .done, pend := some y }))) s.x
def lqK (o : Option PObj) (k : LoopRec → Prop) : Prop := match o with | some (.loop q) => k q | _ => False
@[simp ↓] theorem lqK_some (q : LoopRec) (k : LoopRec → Prop) : lqK (some (.loop q)) k = k q := (rfl)
@[congr] theorem lqK_congr {o o' : Option PObj} {k : LoopRec → Prop} (h : o = o') : lqK o k = lqK o' k := by rw [h]
theorem lqK_ex (o : Option PObj) (k : LoopRec → Prop) : lqK o k = ∃ q, o = some (.loop q) ∧ k q := by
  unfold lqK
  apply propext
  constructor
  · intro h
    split at h
    · exact ⟨_, rfl, h⟩
    · exact h.elim
  · rintro ⟨q, rfl, h⟩
    exact h
@[simp ↓] theorem YdK_nor (ll : Nat) (K : CR → Sto → Nat → Prop) : YdK ll K .nor ⟨e, m, x, [], rv, rd⟩ = lqK (m ll) fun q => K (.ret (.b true)) (m.set ll (some (.loop { q with st := .ready, pend := none }))) x := by simp [YdK, lqK_ex]
@[simp ↓] theorem YdK_ret (ll : Nat) (K : CR → Sto → Nat → Prop) : YdK ll K .ret ⟨e, m, x, [], rv, rd⟩ = lqK (m ll) fun q => K (.ret (.b false)) (m.set ll (some (.loop { q with st := .done, pend := some .ret }))) x := by simp [YdK, lqK_ex]
/-- Behind what a round's variables get. -/
def AsK (C : Ctx) (ll : Nat) (body : PCode) (Q : X → S → Prop) : X → S → Prop := fun xx s => xx = .nor ∧ ∃ q', s.m ll = some (.loop q') ∧ q'.st = .ready ∧ w C s.e (s.m.set ll (some (.loop { q' with st := .busy }))) s.x s.ds s.rv s.rd Q body
@[simp ↓] theorem AsK_nor (ll : Nat) (body : PCode) : AsK C ll body Q .nor ⟨e, m, x, ds, rv, rd⟩ = lqK (m ll) fun q => q.st = .ready ∧ w C e (m.set ll (some (.loop { q with st := .busy }))) x ds rv rd Q body := by
  rw [lqK_ex]
  unfold AsK
  simp

/-- A value handed to a loop over a function. -/
theorem yield_w {ll : Nat} {args : List V} {K : CR → Sto → Nat → Prop} {q : LoopRec} (hm : m ll = some (.loop q)) (hst : q.st = .ready) {e' : Env} (he : setAll q.e q.ps args = some e')
    (h : w C e' m x [] none (some ll) (AsK C ll q.body (YdK ll K)) q.asg) :
    wpCall C (.fn (.yield ll) [] []) args m x K := by
  refine wpCall_yield hm hst he (W_wp (fun xx s hq => ?_) h)
  obtain ⟨rfl, q', h1, h2, h3⟩ := hq
  exact ⟨rfl, q', h1, h2, W_wp (fun z s2 hz => hz) h3⟩
end
end Pi


/- slices.Clone: its run, walked step by step (it asks whether a slice is nil, which the interpreter does not know). -/
namespace Pi
open Go (IntKind TypeId FuncId Fn BinOp UnOp LoopState Value Addr World Program undef Operand Sem Result Frame Item step lone Steps step_lone_go stepG)

/-- What Clone tells of a slice. -/
def cloneH (esz : Nat) (as : List V) (m : Sto) (slot : Nat) : Option (V × Ws) :=
  match as with
  | [y] => (slCells m esz y).bind fun xs => (lenSl y).bind fun n => if n = 0 then some (.ns, []) else if n ≤ BIG then some (.ms slot 0 n esz, [(slot, some (.cells xs false))]) else none
  | _ => none

/-- An operation that takes slot d, is not guarded. -/
def IsOp (o : Go.Oper) (d : Nat) (op : Go.Op) : Prop := o.dst = some d ∧ o.guard = none ∧ o.op = op

/-- A function that is built as slices.Clone is. -/
structure CloneLike (P : Program) (fn : Go.Func) (t et : TypeId) (inf : Go.TypeInfo) : Prop where
  body : ∃ (i0 i1 i2 i3 : Nat) (o0 o1 o2 o3 o4 o5 o6 o7 : Go.Oper) (ty : TypeId),
    fn.body = some (.seq (.region i0 #[o0] false) (.seq (.seq (.region i1 #[o1, o2] false) (.cond (.tmp 4) (.seq (.region i2 #[o3] false) .ret) .skip)) (.seq (.region i3 #[o4, o5, o6, o7] false) .ret))) ∧
    IsOp o0 2 (.assign (.const (.slice none 0 0))) ∧ IsOp o1 3 (.move (.tmp 0)) ∧ IsOp o2 4 (.binOp .eql t (.tmp 3) (.const (.slice none 0 0)) ty) ∧ IsOp o3 2 (.assign (.const (.slice none 0 0))) ∧
    IsOp o4 5 (.buildSlice t 0 #[]) ∧ IsOp o5 6 (.move (.tmp 0)) ∧ IsOp o6 7 (.call { callee := .builtin .append, args := #[.tmp 5, .tmp 6], argTypes := #[t, t] }) ∧ IsOp o7 2 (.assign (.tmp 7))
  nt : fn.ntmps = 8
  res : fn.results = #[.tmp 2]
  ut : P.underlying t = some (.slice et)
  info : P.info? et = some inf
  pos : 1 ≤ inf.size
  lim : inf.bytes ≤ LIM
  zero : ∃ z, zeroL P et = some z ∧ z.length = inf.size

section
variable {P : Program}
theorem s_at {b : B} {tm : Array Value} {df : List Go.Deferred} {k : List Item} {cs : List Frame} {w w' : World} {ops : Array Go.Oper} {i : Nat} {rest : List Nat} {o : Go.Oper} {d : Nat} {op : Go.Op} (ho : ops[i]? = some o) (hb : b.ro = none) (h : IsOp o d op) {v : Value}
    (hr : (Go.execOp (evT tm) o).run P w = .ok (.value v) w') : Steps P (lone (b.at tm df (.inRegion ops (i :: rest) :: k)) cs w) (lone (b.at (tm.setIfInBounds d v) df (.inRegion ops rest :: k)) cs w') := by
  have := s_op (P := P) (b := b) (tm := tm) (df := df) (k := k) (cs := cs) (w := w) (rest := rest) ho (by simp [Go.Region.wanted, h.2.1]) (.inl hb) (v := v) (w' := w') (.inl hr)
  rw [h.1] at this
  exact .one this

theorem eq_nil {t et : TypeId} (ht : P.underlying t = some (.slice et)) {base : Option Addr} {len cap : Nat} (w : World) : ∀ d, (Go.Op.equalIn (d + 1) t (.slice base len cap) (.slice none 0 0)).run P w = .ok base.isNone w := by
  intro d
  rw [Go.Op.equalIn.eq_2]
  simp only [Sem.run_bind, Go.run_underlying ht, Result.andThen_ok]
  cases base <;> rfl
theorem bin_nil {t et : TypeId} (ht : P.underlying t = some (.slice et)) {base : Option Addr} {len cap : Nat} (x y : Operand) (w : World) :
    ((do Go.eqGuard .eql t x y (.slice base len cap) (.slice none 0 0); Go.binOp .eql t (.slice base len cap) (.slice none 0 0) : Sem Value)).run P w = .ok (.bool base.isNone) w := by
  have h1 : (Go.eqGuard .eql t x y (.slice base len cap) (.slice none 0 0)) = (pure () : Sem Unit) := rfl
  have h2 : Go.binOp .eql t (.slice base len cap) (.slice none 0 0) = (do pure (.bool (← Go.Op.equalIn (9999 + 1) t (.slice base len cap) (.slice none 0 0))) : Sem Value) := rfl
  rw [h1, h2]
  simp only [Sem.run_bind, Sem.run_pure, Result.andThen_ok, eq_nil ht]
theorem clone_prim {f : Nat} {fn : Go.Func} {t et : TypeId} {inf : Go.TypeInfo} (hf : P.funcs[f]? = some fn) (hn : fn.name ≠ "runtime.NumGoroutine") (hc : CloneLike P fn t et inf) : PrimOK P f (cloneH inf.size) := by
  obtain ⟨⟨i0, i1, i2, i3, o0, o1, o2, o3, o4, o5, o6, o7, ty, hbody, q0, q1, q2, q3, q4, q5, q6, q7⟩, hnt, hres, ht, hi, h1, hby, z, hz, hzl⟩ := hc
  refine ⟨⟨fn, hf, hn, by simp [hbody]⟩, ?_, ?_⟩
  · intro as m x v ws h
    match as, h with
    | [y], h =>
      simp only [cloneH, Option.bind_eq_some_iff] at h
      obtain ⟨xs, e1, n, e2, e3⟩ := h
      constructor
      · intro m' hm'
        have e1' : slCells m' inf.size y = some xs := by
          rw [← e1]
          cases y <;> try rfl
          simp only [slCells]
          rw [hm' _ (by simp [refOf])]
        simp only [cloneH, e1', e2, Option.bind_some]
        exact e3
      · intro p hp
        split at e3
        · cases e3; cases hp
        · split at e3
          · cases e3
            simp only [List.mem_singleton] at hp
            subst hp
            exact .inl rfl
          · cases e3
  · intro as m x v ws g w args h hp hl hw hrho hm fr cs
    match as, h with
    | [y], h =>
      simp only [cloneH, Option.bind_eq_some_iff] at h
      obtain ⟨xs, e1, n, e2, e3⟩ := h
      obtain ⟨a, ha⟩ : ∃ a, args = #[a] := Array.size_eq_one_iff.1 (by simpa using hl.symm)
      subst ha
      have hy : VR g.ro y g.rho a := by
        obtain ⟨v', r, hv, h2, _⟩ := hp
        simp only [List.cons.injEq] at hv
        rw [hv.1]
        exact h2
      -- the shape of the argument
      obtain ⟨base, len, cap, rfl, hnil⟩ : ∃ base len cap, a = .slice base len cap ∧ (base = none → n = 0) := by
        cases y with
        | ns =>
          simp only [VR] at hy
          obtain ⟨b, rfl⟩ := hy
          simp only [lenSl, Option.some.injEq] at e2
          exact ⟨_, _, _, rfl, fun _ => e2.symm⟩
        | sl cs' len =>
          simp only [VR] at hy
          obtain ⟨b, cap, rfl, h3, h4⟩ := hy
          simp only [lenSl, Option.some.injEq] at e2
          refine ⟨_, _, _, rfl, fun hb => ?_⟩
          rcases h4 with ⟨_, h4⟩ | ⟨_, _, _, _, _, h4, _⟩
          · omega
          · rw [hb] at h4; cases h4
        | ms l off len esz =>
          simp only [VR] at hy
          obtain ⟨b, k, cap, _, rfl, _⟩ := hy
          exact ⟨_, _, _, rfl, fun hb => by cases hb⟩
        | _ => simp [lenSl] at e2
      let b : B := ⟨f, .normal, none⟩
      have hframe : Frame.enter P f #[.slice base len cap] .normal = b.at (#[.slice base len cap] ++ Array.replicate 7 undef) [] [.code (.seq (.region i0 #[o0] false) (.seq (.seq (.region i1 #[o1, o2] false) (.cond (.tmp 4) (.seq (.region i2 #[o3] false) .ret) .skip)) (.seq (.region i3 #[o4, o5, o6, o7] false) .ret)))] := by
        simp [Frame.enter, hf, hbody, B.at, b, hnt]
      have htm : (#[Value.slice base len cap] ++ Array.replicate 7 undef) = #[.slice base len cap, undef, undef, undef, undef, undef, undef, undef] := by rfl
      rw [htm] at hframe
      -- up to the condition
      have hA : Steps P (lone (Frame.enter P f #[.slice base len cap] .normal) (fr :: cs) w)
          (lone (b.at #[.slice base len cap, undef, .slice none 0 0, .slice base len cap, .bool base.isNone, undef, undef, undef] [] [.code (.cond (.tmp 4) (.seq (.region i2 #[o3] false) .ret) .skip), .code (.seq (.region i3 #[o4, o5, o6, o7] false) .ret)]) (fr :: cs) w) := by
        rw [hframe]
        refine .trans (.one s_seq) ?_
        refine .trans (.one s_region) ?_
        refine .trans (s_at (o := o0) rfl rfl q0 (v := .slice none 0 0) (w' := w) (by simp [Go.execOp, q0.2.2, evT])) ?_
        refine .trans (.one s_region_end) ?_
        refine .trans (.one s_seq) ?_
        refine .trans (.one s_seq) ?_
        refine .trans (.one s_region) ?_
        refine .trans (s_at (o := o1) rfl rfl q1 (v := .slice base len cap) (w' := w) (by simp [Go.execOp, q1.2.2, evT])) ?_
        refine .trans (s_at (o := o2) rfl rfl q2 (v := .bool base.isNone) (w' := w) ?_) ?_
        · have := bin_nil (P := P) ht (base := base) (len := len) (cap := cap) (.tmp 3) (.const (.slice none 0 0)) w
          simp only [Go.execOp, q2.2.2]
          simp only [Sem.run_bind] at this ⊢
          simp only [evT]
          exact this ▸ (by simp)
        refine .trans (.one s_region_end) ?_
        exact .refl _ _
      cases base with
      | none =>
        have hn0 := hnil rfl
        subst hn0
        simp only [if_true, Option.some.injEq, Prod.mk.injEq] at e3
        obtain ⟨rfl, rfl⟩ := e3
        refine ⟨.slice none 0 0, w, g, GE.refl _, fun _ _ => rfl, by simp [VR], hw, WB.refl _, hA.trans ?_⟩
        refine .trans (.one (s_cond (t := true) (by simp [evT]))) ?_
        refine .trans (.one s_seq) ?_
        refine .trans (.one s_region) ?_
        refine .trans (s_at (o := o3) rfl rfl q3 (v := .slice none 0 0) (w' := w) (by simp [Go.execOp, q3.2.2, evT])) ?_
        refine .trans (.one s_region_end) ?_
        refine .trans (.one (s_ret rfl)) ?_
        exact .one (s_return rfl rfl rfl hf (by simp [Go.results, hres, B.at, evT]) fr)
      | some ad =>
        let w1 : World := { w with heap := w.heap.push (.cells #[] et) }
        have hw1 : WR P g m w1 := hw.push _
        have hsz : sizeIn P et = some inf.size := by simp [sizeIn, hi]
        have e0 : ((Array.range 0).map fun _ => (default : Value)) = #[] := by simp
        have ap1 : apCells m inf.size y = some xs := by
          rw [← e1]
          cases y <;> first | rfl | (simp [lenSl] at e2)
        have ap2 : lenV m y = some n := by
          rw [← e2]
          cases y <;> first | rfl | (simp [lenSl] at e2)
        obtain ⟨v', w', h', r1, r2, r3, r4, r5, r6⟩ := good_append (P := P) hw1 hrho ht (.inr ⟨_, ht⟩) hi hby hz hzl (x := .ns) (y := y) (v := v) (ws := ws) (a := .slice (some ⟨w.heap.size, 0, none⟩) 0 0) (b := .slice (some ad) len cap)
          (by simp [VR]) hy o6.type (by simp only [ap1, ap2, Option.bind_some]; exact e3)
        refine ⟨v', w', { g with rho := h' }, GE.ofRho r2, r3, r4, r5, (WB.push _ _).trans r6, hA.trans ?_⟩
        refine .trans (.one (s_cond (t := false) (by simp [evT]))) ?_
        refine .trans (.one s_skip) ?_
        refine .trans (.one s_seq) ?_
        refine .trans (.one s_region) ?_
        refine .trans (s_at (o := o4) rfl rfl q4 (v := .slice (some ⟨w.heap.size, 0, none⟩) 0 0) (w' := w1) ?_) ?_
        · simp [Go.execOp, q4.2.2, evT, Go.Instr.buildSlice, Go.run_underlying ht, run_sizeOf hsz, Go.Instr.fill, Go.newRow, e0]
          rfl
        refine .trans (s_at (o := o5) rfl rfl q5 (v := .slice (some ad) len cap) (w' := w1) (by simp [Go.execOp, q5.2.2, evT])) ?_
        refine .trans (s_at (o := o6) rfl rfl q6 (v := v') (w' := w') ?_) ?_
        · have e2 : (#[Operand.tmp 5, Operand.tmp 6].map (evT #[Value.slice (some ad) len cap, undef, Value.slice none 0 0, Value.slice (some ad) len cap, Value.bool (some ad).isNone, Value.slice (some ⟨w.heap.size, 0, none⟩) 0 0, Value.slice (some ad) len cap, undef])) =
              #[.slice (some ⟨w.heap.size, 0, none⟩) 0 0, .slice (some ad) len cap] := by simp [evT]
          have e1 : ∀ (cs' : Array Bool) (as' : Array Value), Go.builtin .append #[t, t] o6.type cs' as' = (do pure (.value (← Go.Builtin.append_ #[t, t] o6.type as')) : Sem Go.Next) := fun _ _ => rfl
          simp only [Go.execOp, q6.2.2, Go.resolve, Go.invoke, Sem.run_bind, Sem.run_pure, Result.andThen_ok, e1]
          have e3 : ∀ a', a' = #[Value.slice (some ⟨w.heap.size, 0, none⟩) 0 0, .slice (some ad) len cap] → ((Go.Builtin.append_ #[t, t] o6.type a').run P w1).andThen (fun a w => (Result.ok (Go.Next.value a) w : Result Go.Next)) = .ok (.value v') w' := by
            rintro a' rfl
            rw [r1]
            rfl
          exact e3 _ e2
        refine .trans (s_at (o := o7) rfl rfl q7 (v := v') (w' := w') (by simp [Go.execOp, q7.2.2, evT])) ?_
        refine .trans (.one s_region_end) ?_
        refine .trans (.one (s_ret rfl)) ?_
        exact .one (s_return rfl rfl rfl hf (by simp [Go.results, hres, B.at, evT]) fr)
theorem clone_link {f : Nat} {fn : Go.Func} {t et : TypeId} {n : Nat} (hf : P.funcs[f]? = some fn) (hn : fn.name ≠ "runtime.NumGoroutine")
    (body : ∃ (i0 i1 i2 i3 : Nat) (o0 o1 o2 o3 o4 o5 o6 o7 : Go.Oper) (ty : TypeId),
    fn.body = some (.seq (.region i0 #[o0] false) (.seq (.seq (.region i1 #[o1, o2] false) (.cond (.tmp 4) (.seq (.region i2 #[o3] false) .ret) .skip)) (.seq (.region i3 #[o4, o5, o6, o7] false) .ret))) ∧
    IsOp o0 2 (.assign (.const (.slice none 0 0))) ∧ IsOp o1 3 (.move (.tmp 0)) ∧ IsOp o2 4 (.binOp .eql t (.tmp 3) (.const (.slice none 0 0)) ty) ∧ IsOp o3 2 (.assign (.const (.slice none 0 0))) ∧
    IsOp o4 5 (.buildSlice t 0 #[]) ∧ IsOp o5 6 (.move (.tmp 0)) ∧ IsOp o6 7 (.call { callee := .builtin .append, args := #[.tmp 5, .tmp 6], argTypes := #[t, t] }) ∧ IsOp o7 2 (.assign (.tmp 7)))
    (nt : fn.ntmps = 8) (res : fn.results = #[.tmp 2]) (ut : P.underlying t = some (.slice et))
    (hs : ((P.info? et).map fun i => (i.size, decide (i.bytes ≤ LIM))) = some (n, true)) (hpos : 1 ≤ n) (hz : (zeroL P et).map List.length = some n) : PrimOK P f (cloneH n) := by
  obtain ⟨inf, h1, h2⟩ := Option.map_eq_some_iff.1 hs
  obtain ⟨z, h3, h4⟩ := Option.map_eq_some_iff.1 hz
  simp only [Prod.mk.injEq, decide_eq_true_eq] at h2
  obtain ⟨rfl, h5⟩ := h2
  exact clone_prim hf hn ⟨body, nt, res, ut, h1, hpos, h5, z, h3, h4⟩
end
end Pi


/- A function without arguments, run in another way of running: what it answers, as a contract proved by hand. -/
namespace Pi
open Go (IntKind TypeId FuncId Fn BinOp UnOp LoopState Value Addr World Program undef Operand Sem Result Frame Item step lone Steps step_lone_go stepG)
def constH (v : V) (as : List V) (_ : Sto) (_ : Nat) : Option (V × Ws) := match as with | [] => some (v, []) | _ => none
@[simp ↓] theorem constH_eq (v : V) (m : Sto) (x : Nat) : constH v [] m x = some (v, []) := rfl
theorem prim_told {P : Program} {C : Ctx} (lk : Lnk P C) {n f : Nat} {v : V} (h : told (enter C n f [] (fun _ => none) 0 none) = some v) (hs : v.scal = true) : PrimOK P f (constH v) := by
  unfold told at h
  split at h
  · rename_i u m1 p he
    obtain ⟨x1, rv1⟩ := p
    obtain ⟨r, h1, rfl⟩ := Option.map_eq_some_iff.1 h
    refine ⟨enter_known lk he, ?_, ?_⟩
    · intro as m x v ws hh
      match as, hh with
      | [], hh =>
        simp only [constH, Option.some.injEq, Prod.mk.injEq] at hh
        obtain ⟨rfl, rfl⟩ := hh
        exact ⟨fun _ _ => rfl, fun p hp => nomatch hp⟩
    · intro as m x v ws g w args hh hp hl hw hrho hm fr cs
      match as, hh with
      | [], hh =>
        simp only [constH, Option.some.injEq, Prod.mk.injEq] at hh
        obtain ⟨rfl, rfl⟩ := hh
        have hz : freezeL m [] = some ([], []) := by simp [freezeL, frzL]
        obtain ⟨w1, q1, q2, q3, _⟩ := closed_call (sound lk n n (Nat.le_refl _)) hz he hp hl hw (.inl rfl) h1 fr cs
        obtain ⟨v', q4, q5⟩ := q3 hs
        exact ⟨v', w1, g, GE.refl _, fun _ _ => rfl, q4, q2, q1, q5⟩
  · cases h
end Pi


/- Rules for proofs: functions that panic, put calls off, recover; values frozen where they are. -/
namespace Pi
open Go (IntKind TypeId FuncId Fn BinOp UnOp LoopState)
section
variable {C : Ctx} {e : Env} {m : Sto} {x : Nat} {ds : List D} {rv : Option V} {rd : Option Nat} {Q : X → S → Prop}

/-- A call that was put off: it runs as its function is left. -/
def dfK (C : Ctx) (f : V) (args : List V) (m : Sto) (x : Nat) (p : V) (k : Sto → Nat → Option V → Prop) : Prop :=
  match f with
  | .fn (.func g) a c => ∃ v m' x' rv', Ent C g (a ++ args ++ c) m x (some p) (.ret v) m' x' rv' ∧ k m' x' rv'
  | _ => False
/-- What a frame does that is left. -/
def LvK (C : Ctx) (rs : List RVar) (e : Env) (K : CR → Sto → Nat → Prop) : List D → Sto → Nat → Option V → Prop
  | [], m, x, none => resK (result e m rs) fun v => K (.ret v) m x
  | [], m, x, some v => K (.pan v) m x
  | .mark l :: r, m, x, pn => m l = some .dfr ∧ LvK C rs e K r (m.set l none) x pn
  | .call f args :: r, m, x, pn => dfK C f args m x (pn.getD .ni) fun m' x' rv' => LvK C rs e K r m' x' (if rv'.isNone then none else pn)
@[simp ↓] theorem LvK_nil (rs : List RVar) (K : CR → Sto → Nat → Prop) : LvK C rs e K [] m x none = resK (result e m rs) fun v => K (.ret v) m x := (rfl)
@[simp ↓] theorem LvK_mark (rs : List RVar) (K : CR → Sto → Nat → Prop) (l : Nat) (r : List D) (pn : Option V) : LvK C rs e K (.mark l :: r) m x pn = (m l = some .dfr ∧ LvK C rs e K r (m.set l none) x pn) := (rfl)
def LvC (C : Ctx) (rs : List RVar) (e : Env) (K : CR → Sto → Nat → Prop) (r : List D) (pn : Option V) : Sto → Nat → Option V → Prop := fun m' x' rv' => LvK C rs e K r m' x' (if rv'.isNone then none else pn)
theorem leav_call {F : PFun} {s : S} {pn : Option V} {g : Nat} {a c args : List V} {r : List D} {cr : CR} {m' : Sto} {x' : Nat} {rv' : Option V} (hd : s.ds = .call (.fn (.func g) a c) args :: r) {v1 : V} {m1 : Sto} {x1 : Nat} {rv1 : Option V}
    (h1 : Ent C g (a ++ args ++ c) s.m s.x (some (pn.getD .ni)) (.ret v1) m1 x1 rv1) (h : Leav C F { s with m := m1, x := x1, ds := r } (if rv1.isNone then none else pn) cr m' x' rv') : Leav C F s pn cr m' x' rv' :=
  Ev.succ ((h1.and h).mono fun k hk => by rw [leave.eq_def]; simp only [hd, hk.1, Option.bind_some]; exact hk.2)

theorem lv_leav {rv : Option V} {rd : Option Nat} {F : PFun} {K : CR → Sto → Nat → Prop} : ∀ {ds : List D} {m : Sto} {x : Nat} {pn : Option V}, LvK C F.rs e K ds m x pn → ∃ cr m' x', Leav C F ⟨e, m, x, ds, rv, rd⟩ pn cr m' x' rv ∧ K cr m' x'
  | [], m, x, none, h => by
    simp only [LvK] at h
    cases hr : result e m F.rs with
    | none => rw [hr] at h; exact h.elim
    | some v => rw [hr] at h; exact ⟨_, _, _, leav_none rfl hr, h⟩
  | [], m, x, some v, h => ⟨_, _, _, leav_pan rfl, h⟩
  | .mark l :: r, m, x, pn, h => by
    obtain ⟨cr, m', x', h1, h2⟩ := lv_leav (rv := rv) (rd := rd) h.2
    exact ⟨cr, m', x', leav_mark rfl h.1 h1, h2⟩
  | .call f args :: r, m, x, pn, h => by
    have h' : dfK C f args m x (pn.getD .ni) (LvC C F.rs e K r pn) := h
    unfold dfK at h'
    split at h'
    · obtain ⟨v, m1, x1, rv1, h1, h2⟩ := h'
      obtain ⟨cr, m', x', h3, h4⟩ := lv_leav (rv := rv) (rd := rd) h2
      exact ⟨cr, m', x', leav_call rfl h1 h3, h4⟩
    · exact h'.elim

/-- A function's end, panics too. -/
def RetG (C : Ctx) (rs : List RVar) (K : CR → Sto → Nat → Prop) : X → S → Prop := fun xx s => match xx with
  | .pan v => LvK C rs s.e K s.ds s.m s.x (some v)
  | .exit _ => False
  | _ => LvK C rs s.e K s.ds s.m s.x none
@[simp ↓] theorem RetG_ret (rs : List RVar) (K : CR → Sto → Nat → Prop) : RetG C rs K .ret ⟨e, m, x, ds, rv, rd⟩ = LvK C rs e K ds m x none := (rfl)
@[simp ↓] theorem RetG_nor (rs : List RVar) (K : CR → Sto → Nat → Prop) : RetG C rs K .nor ⟨e, m, x, ds, rv, rd⟩ = LvK C rs e K ds m x none := (rfl)
/-- What it answers, frozen where it is. -/
def FzK (o : Option (V × List Nat)) (K : CR → Sto → Nat → Prop) (m : Sto) (x : Nat) : Prop := match o with | some w => K (.ret w.1) (aft w.1 m w.2) x | none => False
def frK (b : Bool) (K : CR → Sto → Nat → Prop) : CR → Sto → Nat → Prop := fun cr m x => match cr with
  | .pan v => K (.pan v) m x
  | .ret v => if b then FzK (freeze m v) K m x else K (.ret v) m x
@[simp ↓] theorem frK_not (K : CR → Sto → Nat → Prop) (v : V) : frK false K (.ret v) m x = K (.ret v) m x := (rfl)

theorem ent_lv {g : Nat} {F : PFun} {vs : List V} {K : CR → Sto → Nat → Prop} (hF : C.fns g = some F) (h : w C (envOf vs) m x [] rv none (RetG C F.rs K) F.code) : ∃ cr m' x' rv', Ent C g vs m x rv cr m' x' rv' ∧ K cr m' x' := by
  obtain ⟨xx, ⟨e', m', x', ds', rv', rd'⟩, h1, h2⟩ := wp_ok (W_ok h)
  have fin : ∀ {pn : Option V}, LvK C F.rs e' K ds' m' x' pn → (∀ k, exec C k F.code ⟨envOf vs, m, x, [], rv, none⟩ = some (xx, ⟨e', m', x', ds', rv', rd'⟩) → ∀ z, leave C k F ⟨e', m', x', ds', rv', rd'⟩ pn = some z → enter C (k + 1) g vs m x rv = some z) → ∃ cr m' x' rv', Ent C g vs m x rv cr m' x' rv' ∧ K cr m' x' := by
    intro pn hl hk
    obtain ⟨cr, m2, x2, h3, h4⟩ := lv_leav (rv := rv') (rd := rd') hl
    exact ⟨cr, m2, x2, rv', Ev.succ ((h1.and h3).mono fun k q => hk k q.1 _ q.2), h4⟩
  cases xx with
  | pan v => exact fin h2 fun k h3 z h4 => by simp only [enter, hF, Option.bind_some, h3]; exact h4
  | nor => exact fin h2 fun k h3 z h4 => by simp only [enter, hF, Option.bind_some, h3]; exact h4
  | ret => exact fin h2 fun k h3 z h4 => by simp only [enter, hF, Option.bind_some, h3]; exact h4
  | exit i => exact h2.elim

/-- An open call, in general. -/
theorem openg_w {g : Nat} {F : PFun} {first cap args : List V} {K : CR → Sto → Nat → Prop} (hF : C.fns g = some F) (hp : C.prim g = none) (ho : C.opn g = true ∨ freezeL m (first ++ args ++ cap) = none)
    (h : w C (envOf (first ++ args ++ cap)) m x [] none none (RetG C F.rs (frK (C.frz g) K)) F.code) : wpCall C (.fn (.func g) first cap) args m x K := by
  obtain ⟨cr, m', x', rv', h1, h2⟩ := ent_lv hF h
  cases cr with
  | pan v => exact ⟨_, _, _, call_frzp hp ho h1, h2⟩
  | ret v =>
    cases hq : C.frz g with
    | false =>
      rw [hq] at h2
      exact ⟨_, _, _, call_open hp ho hq h1, h2⟩
    | true =>
      rw [hq] at h2
      have h3 : FzK (freeze m' v) K m' x' := h2
      cases hz : freeze m' v with
      | none => rw [hz] at h3; exact h3.elim
      | some r =>
        rw [hz] at h3
        exact ⟨_, _, _, call_frz hp ho hq h1 hz, h3⟩

/-- A function that panics, or puts calls off, called closed. -/
def AnK (w : V) : CR → Sto → Nat → Prop := fun cr m x => match cr with | .ret v => FrzW w (freeze m v) | .pan _ => False
/-- A call whose result is made anew. -/
def FrR (u : Nat → V) (cs : Option (List V)) (v : V) (m' : Sto) : Prop := ∀ x, (outV m' x v).map (fun p => (p.1, p.2.map Prod.snd)) = some (u x, cs)
def AnF (u : Nat → V) (cs : Option (List V)) : CR → Sto → Nat → Prop := fun cr m' _ => match cr with | .ret v => FrR u cs v m' | .pan _ => False
@[simp ↓] theorem AnF_ret (u : Nat → V) (cs : Option (List V)) (v : V) : AnF u cs (.ret v) m x = FrR u cs v m := (rfl)
theorem ansf {g : Nat} {F : PFun} {vs : List V} {u : Nat → V} {cs : Option (List V)} (hF : C.fns g = some F) (h : w C (envOf vs) (fun _ => none) 0 [] none none (RetG C F.rs (AnF u cs)) F.code) : AnsF C g vs u cs := by
  obtain ⟨cr, m', x', rv', h1, h2⟩ := ent_lv hF h
  cases cr with
  | pan v => exact h2.elim
  | ret v => exact ⟨v, m', x', rv', h1, h2⟩

theorem frzL_zeros {z : List V} (h : ∀ D, frzL D z = some (z, [])) (D : Nat → Option (Bool × List V × List V × List Nat)) : ∀ n, frzL D (zeros z n) = some (zeros z n, [])
  | 0 => by simp [zeros]
  | n + 1 => by simp [zeros, frzL_app, h, frzL_zeros h D n]
@[simp] theorem lenK_c0 : lenK m .c .ns = some 0 := (rfl)
theorem w_as {c c' : PCode} (h : c = c') (k : w C e m x ds rv rd Q c') : w C e m x ds rv rd Q c := h ▸ k
/-- A loop over a function, with its code as letters. -/
theorem rf_g {f : Opd} {ps : List Nat} {a b : PCode}
    (h : ∀ A B, A = a → B = b → wpCall C (f.ev e) [.fn (.yield (x + 1)) [] []] ((m.set x (some .dfr)).set (x + 1) (some (.loop ⟨e, ps, A, B, .ready, none⟩))) (x + 2) (RfK e x ds rv none Q)) :
    w C e m x ds rv none Q (.rf f ps a b) := rf_w (h a b rfl rfl)
/-- A loop's round, and the loop again. -/
def LpU (C : Ctx) (b : PCode) (Q : X → S → Prop) : X → S → Prop := fun xx s => match xx with | .nor => W C (.loop b) s Q | xx => Q xx s
@[simp ↓] theorem LpU_nor (b : PCode) : LpU C b Q .nor ⟨e, m, x, ds, rv, rd⟩ = w C e m x ds rv rd Q (.loop b) := (rfl)
@[simp ↓] theorem LpU_exit (b : PCode) (s : S) (i : Nat) : LpU C b Q (.exit i) s = Q (.exit i) s := (rfl)
theorem un_w {b : PCode} (h : w C e m x ds rv rd (LpU C b Q) b) : w C e m x ds rv rd Q (.loop b) := by
  obtain ⟨xx, s1, h1, h2⟩ := wp_ok (W_ok h)
  cases xx with
  | nor =>
    obtain ⟨x2, s2, h3, h4⟩ := h2
    exact ⟨x2, s2, Ev.succ ((h1.and h3).mono fun k hk => by simp only [exec, hk.1, Option.bind_some]; exact hk.2), h4⟩
  | _ => exact ⟨_, _, Ev.succ (h1.mono fun k hk => by simp only [exec, hk, Option.bind_some]), h2⟩
/-- A function whose contract is proved by hand. -/
theorem CallX_pr {g : Nat} {first cap args : List V} {K : CR → Sto → Nat → Prop} {h : List V → Sto → Nat → Option (V × Ws)} (hp : C.prim g = some h) :
    CallX C (.fn (.func g) first cap) args m x K = opK (h (first ++ args ++ cap) m x) fun v ws => K (.ret v) (m.app ws) (x + 1) := by
  have e : CallX C (.fn (.func g) first cap) args m x K = wpCall C (.fn (.func g) first cap) args m x K := by
    unfold CallX
    simp [hp]
  rw [e]
  cases hh : h (first ++ args ++ cap) m x with
  | some q =>
    rw [opK_some]
    refine wpCall_eq (Ev.succ (.all fun k => ?_))
    unfold callV
    simp only [hp, hh, Option.map_some]
  | none =>
    rw [opK_none]
    apply propext
    constructor
    · rintro ⟨cr, m', x', ⟨n, hc⟩, _⟩
      have := hc (n + 1) (by omega)
      unfold callV at this
      simp only [hp, hh, Option.map_none] at this
      cases this
    · exact fun h => h.elim
theorem CallQ_pr {g : Nat} {first cap args : List V} {K : QR → Prop} {h : List V → Sto → Nat → Option (V × Ws)} (hp : C.prim g = some h) :
    CallQ C (.fn (.func g) first cap) args m x K = opK (h (first ++ args ++ cap) m x) fun v ws => K ⟨v, ws, x :: (first ++ args ++ cap).flatMap refOf, x + 1, false⟩ := by
  have e : CallQ C (.fn (.func g) first cap) args m x K = wpQuiet C (.fn (.func g) first cap) args m x K := by
    unfold CallQ
    simp [hp]
  rw [e]
  cases hh : h (first ++ args ++ cap) m x with
  | some q =>
    rw [opK_some]
    refine wpQuiet_eq (Ev.succ (.all fun k => ?_))
    unfold callQ
    simp only [hp, hh, Option.map_some]
  | none =>
    rw [opK_none]
    apply propext
    constructor
    · rintro ⟨q, ⟨n, hc⟩, _⟩
      have := hc (n + 1) (by omega)
      unfold callQ at this
      simp only [hp, hh, Option.map_none] at this
      cases this
    · exact fun h => h.elim
/-- Behind an open call in a region of open order: what it made is the caller's. -/
def FreshK (x : Nat) (v : V) (m' : Sto) (x' : Nat) (K : QR → Prop) : Prop :=
  v.over x = true ∧ (∀ j, x ≤ j → j < x' → ownO x (m' j) = true) ∧ ∀ ws ids, (∀ l ∈ ids, x ≤ l ∧ l < x') → ws.map Prod.fst = ids → (∀ (m0 : Sto) l, (m0.app ws) l = if x ≤ l ∧ l < x' then m' l else m0 l) → K ⟨v, ws, ids, x + (x' - x), false⟩
def freshK (K : QR → Prop) (x : Nat) : CR → Sto → Nat → Prop := fun cr m' x' => match cr with
  | .ret v => FreshK x v m' x' K
  | .pan _ => False
@[simp] theorem CallQ_op {g : Nat} {first cap args : List V} {K : QR → Prop} (ho : C.opn g = true) : CallQ C (.fn (.func g) first cap) args m x K = wpQuiet C (.fn (.func g) first cap) args m x K := by
  unfold CallQ
  simp [ho]
theorem openq_w {g : Nat} {F : PFun} {first cap args : List V} {K : QR → Prop} (hF : C.fns g = some F) (hp : C.prim g = none) (ho : C.opn g = true) (hq : C.frz g = false) {a : List V} (hz : freezeL m (first ++ args ++ cap) = some (a, []))
    (h : w C (envOf a) (fun _ => none) x [] none none (RetG C F.rs (freshK K x)) F.code) (hny : nsyL (first ++ args ++ cap) = false := by first | rfl | simp [nsyL, V.nsy]) : wpQuiet C (.fn (.func g) first cap) args m x K := by
  obtain ⟨cr, m', x', rv', h1, h2⟩ := ent_lv hF h
  cases cr with
  | pan v => exact h2.elim
  | ret v =>
    obtain ⟨h3, h4, h5⟩ := h2
    refine ⟨_, Ev.succ (h1.mono fun k hk => ?_), h5 (freshWs m' x (x' - x)) _ ?_ rfl ?_⟩
    · unfold callQ
      simp only [hp, ho, if_true, hz, Option.bind_some, hk]
      rw [if_neg (by rw [hq, hny]; simp), if_pos]
      refine ⟨h3, ?_⟩
      rw [List.all_eq_true]
      intro p hp'
      obtain ⟨i, hi, rfl⟩ := List.mem_map.1 hp'
      have := List.mem_range.1 hi
      exact h4 _ (by omega) (by omega)
    · intro l hl
      obtain ⟨p, hp', rfl⟩ := List.mem_map.1 hl
      obtain ⟨i, hi, rfl⟩ := List.mem_map.1 hp'
      have := List.mem_range.1 hi
      simp only
      omega
    · intro m0 l
      rw [app_fresh]
      by_cases h : x ≤ l ∧ l < x'
      · rw [if_pos h, if_pos (by omega)]
      · rw [if_neg h, if_neg (by omega)]
/-- All that lies at some numbers and above can be written to, and tells of nothing older. -/
def Own (m : Sto) (x : Nat) : Prop := ∀ j, x ≤ j → ownO x (m j) = true
theorem Own.nil {x : Nat} : Own (fun _ => none) x := fun _ _ => rfl
theorem Own.set {m : Sto} {x : Nat} (h : Own m x) {l : Nat} {o : Option PObj} (ho : ownO x o = true) : Own (m.set l o) x := by
  intro j hj
  by_cases e : j = l
  · subst e; rw [Sto.seq]; exact ho
  · rw [Sto.sne _ _ _ _ e]; exact h j hj
@[simp ↓] theorem cloneH_eq (esz : Nat) (y : V) : cloneH esz [y] m x = apK (slCells m esz y) (lenSl y) m esz .ns x := by
  rfl
variable {d : Option Nat} {r : List POper}
end
/-! What is marked as read-only reads as before. -/
section
def bare : Option PObj → Option PObj
  | some (.cells cs _) => some (.cells cs false)
  | some (.map ks vs _) => some (.map ks vs false)
  | some (.lit cs) => some (.cells cs false)
  | o => o
theorem bare_roB (c : Bool) (o : Option PObj) : bare (roB c o) = bare o := by
  cases o with
  | none => rfl
  | some o => cases o <;> first | rfl | (cases c <;> rfl)
theorem bare_aft (w : V) : ∀ (ids : List Nat) (m : Sto) (l : Nat), bare (aft w m ids l) = bare (m l)
  | [], m, l => by rw [aft_nil]
  | a :: r, m, l => by
    rw [aft_cons, bare_aft w r]
    unfold Sto.set
    split
    · rename_i h; subst h; exact bare_roB _ _
    · rfl
theorem derO_bare (D : Nat → Option (Bool × List V × List V × List Nat)) (o : Option PObj) : derO D o = derO D (bare o) := by
  cases o with
  | none => rfl
  | some o => cases o <;> rfl
theorem aft_none (w : V) : ∀ (ids : List Nat) (m : Sto) (l : Nat), l ∉ ids → aft w m ids l = m l
  | [], m, l, _ => by rw [aft_nil]
  | a :: r, m, l, h => by
    simp only [List.mem_cons, not_or] at h
    rw [aft_cons, aft_none w r _ l h.2]
    unfold Sto.set
    rw [if_neg h.1]
end
/-! Lists under construction whose elements lie in memory too. -/
section
variable {α : Type} {f : α → List V} {k : Nat}
/-- What cells come to, frozen: only memory from 'lo' on, below 'x', but for one place, is looked at. -/
def FzX (m : Sto) (lo x a d : Nat) (cs out : List V) : Prop := ∀ m' : Sto, (∀ j, lo ≤ j → j < x → j ≠ a → m' j = m j) → ∀ n, d ≤ n → ∃ ids, frzL (der m' n) cs = some (out, ids)
theorem FzX.up {m m' : Sto} {lo x x' a b d : Nat} {cs out : List V} (h : FzX m lo x a d cs out) (hx : x ≤ x') (hb : b = a ∨ b < lo ∨ x ≤ b) (hm : ∀ j, lo ≤ j → j < x → j ≠ a → m' j = m j) : FzX m' lo x' b d cs out :=
  fun m2 h2 n hn => h m2 (fun j h3 h4 h5 => (h2 j h3 (by omega) (by omega)).trans (hm j h3 h4 h5)) n hn
theorem FzX.app {m : Sto} {lo x a d : Nat} {cs cs' out out' : List V} (h : FzX m lo x a d cs out) (h' : FzX m lo x a d cs' out') : FzX m lo x a d (cs ++ cs') (out ++ out') := by
  intro m' hm n hn
  obtain ⟨i1, e1⟩ := h m' hm n hn
  obtain ⟨i2, e2⟩ := h' m' hm n hn
  exact ⟨i1 ++ i2, by rw [frzL_app, e1, e2]; rfl⟩
theorem FzAt.x {m : Sto} {lo lo' x x' a d : Nat} {cs out : List V} (h : FzAt m lo x d cs out) (hl : lo' ≤ lo) (hx : x ≤ x') (ha : a < lo ∨ x ≤ a) : FzX m lo' x' a d cs out :=
  fun m' hm n hn => h m' (fun j h1 h2 => hm j (by omega) (by omega) (by omega)) n hn
theorem FzAt.wide {m m' : Sto} {lo lo' x x' d : Nat} {cs out : List V} (h : FzAt m lo x d cs out) (hl : lo' ≤ lo) (hx : x ≤ x') (hm : ∀ j, lo ≤ j → j < x → m' j = m j) : FzAt m' lo' x' d cs out :=
  fun m2 h2 n hn => h m2 (fun j h3 h4 => (h2 j (by omega) (by omega)).trans (hm j h3 h4)) n hn
def Bn (m : Sto) (B : V) (f : α → List V) (k : Nat) (l : List α) (lo x d : Nat) : Prop :=
  (B = .ns ∧ l = []) ∨ ∃ a cs, B = .ms a 0 l.length k ∧ m a = some (.cells cs false) ∧ (cs.length = l.length * k ∧ FzX m lo x a d cs (l.flatMap f)) ∧ lo ≤ a ∧ a < x
theorem Bn.nil {m : Sto} {lo x d : Nat} : Bn m .ns f k [] lo x d := .inl ⟨rfl, rfl⟩
theorem Bn.up {m m' : Sto} {B : V} {l : List α} {lo x x' d : Nat} (h : Bn m B f k l lo x d) (hx : x ≤ x') (hm : ∀ j, lo ≤ j → j < x → m' j = m j) : Bn m' B f k l lo x' d := by
  rcases h with h | ⟨a, cs, h1, h2, ⟨h3, h4⟩, h5, h6⟩
  · exact .inl h
  · exact .inr ⟨a, cs, h1, by rw [hm a h5 h6, h2], ⟨h3, h4.up hx (.inl rfl) (fun j q1 q2 _ => hm j q1 q2)⟩, h5, by omega⟩
theorem Bn.to {m : Sto} {B : V} {l l' : List α} {lo x x' d : Nat} (h : Bn m B f k l lo x d) (hl : l = l') (hx : x ≤ x') : Bn m B f k l' lo x' d := hl ▸ h.up hx (fun _ _ _ => rfl)
theorem Bn.fz [h : Cel f k] {m : Sto} {B : V} {l : List α} {lo x d : Nat} (hB : Bn m B f k l lo x d) (n : Nat) (hn : d ≤ n) : ∃ ids, frzW (der m (n + 1)) B = some (sV f l, ids) := by
  rcases hB with ⟨rfl, rfl⟩ | ⟨a, cs, rfl, h2, ⟨h3, h4⟩, h5, h6⟩
  · exact ⟨_, frzW_ns _⟩
  · obtain ⟨ids, e⟩ := h4 m (fun _ _ _ _ => rfl) n hn
    refine ⟨a :: ids, ?_⟩
    rw [frzW_ms, der_s, h2, derO_cells, e]
    simp only [Option.bind_some, true_and, List.drop_zero, Nat.zero_add]
    rw [if_pos (by rw [flat_len]; exact Nat.le_refl _), List.take_of_length_le (by rw [flat_len]; exact Nat.le_refl _)]
    rfl
theorem Bn.fz24 [h : Cel f k] {m : Sto} {B : V} {l : List α} {lo x d : Nat} (hB : Bn m B f k l lo x d) (hd : d ≤ 39) : ∃ ids, frzW (der m 40) B = some (sV f l, ids) := hB.fz 39 hd
theorem Bn.len {m : Sto} {B : V} {l : List α} {lo x d : Nat} (hB : Bn m B f k l lo x d) : lenSl B = some l.length := by
  rcases hB with ⟨rfl, rfl⟩ | ⟨a, cs, rfl, h2, h3, h4⟩ <;> rfl
theorem Bn.stor {m : Sto} {B : V} {l : List α} {lo x d : Nat} (hB : Bn m B f k l lo x d) : B.stor = true := by
  rcases hB with ⟨rfl, rfl⟩ | ⟨a, cs, rfl, h2, h3, h4⟩ <;> rfl
theorem Bn.cells {m : Sto} {B : V} {l : List α} {lo x d : Nat} (hB : Bn m B f k l lo x d) : B.cells = [B] := by
  rcases hB with ⟨rfl, rfl⟩ | ⟨a, cs, rfl, h2, h3, h4⟩ <;> rfl
/-- A list of plain things, as a cell. -/
theorem Bf.at [h : Cel f k] {m : Sto} {B : V} {l : List α} {lo x : Nat} (hB : Bf m B f k l lo x) : FzAt m lo x 1 [B] [sV f l] := by
  intro m' hm d hd
  obtain ⟨d, rfl⟩ : ∃ e, d = e + 1 := ⟨d - 1, by omega⟩
  have := (hB.up (m' := m') (Nat.le_refl x) hm).fz d
  exact ⟨refOf B ++ [], by rw [frzL_cons, this]; simp⟩
/-- A list, as a cell. -/
theorem Bn.at [h : Cel f k] {m : Sto} {B : V} {l : List α} {lo x d : Nat} (hB : Bn m B f k l lo x d) : FzAt m lo x (d + 1) [B] [sV f l] := by
  intro m' hm n hn
  obtain ⟨n, rfl⟩ : ∃ e, n = e + 1 := ⟨n - 1, by omega⟩
  obtain ⟨ids, e⟩ := (hB.up (m' := m') (Nat.le_refl x) hm).fz n (by omega)
  exact ⟨ids ++ [], by rw [frzL_cons, e]; simp⟩
/-- One more. -/
theorem Bn.ap [h : Cel f k] {m m' : Sto} {B : V} {l : List α} (a : α) {lo x slot d n : Nat} {K : V → Ws → Prop} {ec : List V} (hB : Bn m B f k l lo x d) (hm : ∀ j, lo ≤ j → j < x → m' j = m j) (hx : x ≤ slot) (hlo : lo ≤ x)
    (he : FzAt m' x slot d ec (f a)) (hec : ec.length = k) (hn : n = 1) (hl : l.length + 1 ≤ 2147483648)
    (hK : ∀ B' ws m2, m'.app ws = m2 → Bn m2 B' f k (l ++ [a]) lo (slot + 1) d → (∀ j, j < lo → m2 j = m' j) → (∀ j, x ≤ j → j < slot → m2 j = m' j) → K B' ws) : opK (apV m' k B ec n slot) K := by
  subst hn
  rcases hB with ⟨rfl, rfl⟩ | ⟨b, cs, rfl, h2, ⟨h3, h4⟩, h5, h6⟩
  · rw [apV_ns, if_neg (by omega), if_pos (by decide)]
    refine hK _ _ _ rfl (.inr ⟨slot, ec, by simp, by simp, ⟨by simp [hec], ?_⟩, by omega, by omega⟩) (fun j hj => ?_) (fun j hj1 hj2 => ?_)
    · have := (he.x (lo' := lo) (x' := slot + 1) (a := slot) hlo (by omega) (.inr (Nat.le_refl _)))
      simp only [List.nil_append, List.flatMap_cons, List.flatMap_nil, List.append_nil]
      refine this.up (Nat.le_refl _) (.inl rfl) (fun j q1 q2 q3 => ?_)
      rw [sapp_cons, sapp_nil, Sto.sne _ _ _ _ (by simp only; omega)]
    · rw [sapp_cons, sapp_nil, Sto.sne _ _ _ _ (by simp only; omega)]
    · rw [sapp_cons, sapp_nil, Sto.sne _ _ _ _ (by simp only; omega)]
  · rw [apV_ms, if_neg (by omega), hm b h5 h6, h2, apO_cells, if_pos ⟨rfl, by rw [h3]; exact Nat.le_refl _, hl⟩, List.take_of_length_le (by rw [h3]; exact Nat.le_refl _)]
    have far : ∀ j, j ≠ b → j ≠ slot → (m'.app [(b, none), (slot, some (.cells (cs ++ ec) false))]) j = m' j := by
      intro j q1 q2
      rw [sapp_cons, sapp_cons, sapp_nil, Sto.sne _ _ _ _ (by simp only; omega), Sto.sne _ _ _ _ (by simp only; omega)]
    refine hK _ _ _ rfl (.inr ⟨slot, cs ++ ec, by simp, by simp, ⟨by simp [h3, hec, Nat.succ_mul], ?_⟩, by omega, by omega⟩) (fun j hj => far j (by omega) (by omega)) (fun j hj1 hj2 => far j (by omega) (by omega))
    rw [List.flatMap_append]
    refine FzX.app (fun m3 q n hn => h4 m3 (fun j q1 q2 q3 => (q j q1 (by omega) (by omega)).trans ((far j q3 (by omega)).trans (hm j q1 q2))) n hn) ?_
    simp only [List.flatMap_cons, List.flatMap_nil, List.append_nil]
    exact fun m3 q n hn => he m3 (fun j q1 q2 => (q j (by omega) (by omega) (by omega)).trans (far j (by omega) (by omega))) n hn
end
end Pi


/- A way of running whose functions are compiled as they are met. -/
namespace Pi
open Go (Program)
def compN (P : Program) (ids : List Nat) (f : Nat) : Option PFun := if ids.contains f then (P.funcs[f]?).bind (compF P) else none
def ctxC (P : Program) (ids : List Nat) (op : List Nat) (fr : List Nat) (pm : Nat → Option (List V → Sto → Nat → Option (V × Ws))) : Ctx where
  fns := compN P ids
  opn := fun f => op.contains f
  prim := pm
  frz := fun f => fr.contains f
theorem lnkC {P : Program} {ids op fr : List Nat} {pm : Nat → Option (List V → Sto → Nat → Option (V × Ws))} (hp : ∀ f h, pm f = some h → PrimOK P f h) (hm : P.follows .mixedOrders = true) (hn : (ids.all fun f => match P.funcs[f]? with | some fn => fn.name != "runtime.NumGoroutine" | none => true) = true) : Lnk P (ctxC P ids op fr pm) where
  fns := by
    intro f F h
    simp only [ctxC, compN] at h
    split at h
    · rename_i hf
      obtain ⟨fn, h1, h2⟩ := Option.bind_eq_some_iff.1 h
      have := List.all_eq_true.1 hn f (by simpa using hf)
      rw [h1] at this
      exact ⟨fn, h1, h2, by simpa using this⟩
    · cases h
  prim := hp
  mixed := hm
/-- A closed call whose answer was found. -/
def tabH (a0 : List V) (v : V) (as : List V) (_ : Sto) (_ : Nat) : Option (V × Ws) := match freezeL (fun _ => none) as with
  | some (a, []) => if eqvL a a0 then some (v, []) else none
  | _ => none
theorem tabH_some {a0 as : List V} {v u : V} {m : Sto} {x : Nat} {ws : Ws} (h : tabH a0 v as m x = some (u, ws)) : freezeL (fun _ => none) as = some (a0, []) ∧ u = v ∧ ws = [] := by
  unfold tabH at h
  split at h
  · rename_i a ha
    split at h
    · rename_i hs
      simp only [Option.some.injEq, Prod.mk.injEq] at h
      rw [eqvL_eq hs] at ha
      exact ⟨ha, h.1.symm, h.2.symm⟩
    · cases h
  · cases h
theorem prim_tab {P : Program} {C : Ctx} (lk : Lnk P C) {n f : Nat} {a0 : List V} {v : V} (h : told (enter C n f a0 (fun _ => none) 0 none) = some v) : PrimOK P f (tabH a0 v) := by
  unfold told at h
  split at h
  · rename_i u m1 p he
    obtain ⟨x1, rv1⟩ := p
    obtain ⟨r, h1, rfl⟩ := Option.map_eq_some_iff.1 h
    refine ⟨enter_known lk he, ?_, ?_⟩
    · intro as m x v ws hh
      obtain ⟨e1, e2, e3⟩ := tabH_some hh
      refine ⟨fun _ _ => hh, fun p hp => ?_⟩
      rw [e3] at hp
      cases hp
    · intro as m x v ws g w args hh hp hl hw hrho hm fr cs
      obtain ⟨e1, rfl, rfl⟩ := tabH_some hh
      have hz : freezeL m as = some (a0, []) := freezeL_same e1 (fun l hl => by cases hl)
      obtain ⟨w1, q1, q2, q3, g', q4, q5, q6, q7⟩ := closed_call (sound lk n n (Nat.le_refl _)) hz he hp hl hw (.inl rfl) h1 fr cs
      obtain ⟨v', q8, q9⟩ := q7
      exact ⟨v', w1, g', q5, fun l _ => by rw [q4], q8, q6, q1, q9⟩
  · cases h
end Pi


/- A function that answers a map of pairs of numbers, whose entries are put in any order. -/
namespace Pi
open Go (IntKind TypeId FuncId Fn BinOp UnOp LoopState Value Addr World Program undef Operand Sem Result Frame Item step lone Steps step_lone_go stepG)
section
variable {P : Program}
def ctx0 : Ctx := ⟨fun _ => none, fun _ => false, fun _ => none, fun _ => false⟩
theorem lnk0 (hm : P.follows .mixedOrders = true) : Lnk P ctx0 where
  fns := by intro f F h; cases h
  prim := by intro f h hh; cases hh
  mixed := hm
/-- The operations: the map, its keys, its entries. -/
def pk (E : Nat → P3) (i : Nat) : POper := if i = 0 then ⟨some 1, .mm, none⟩ else if i % 2 = 1 then ⟨some (2 + i / 2), .bd [.i .i64 0, .i .i64 0] [(0, 1, .c (.i .i64 (E (i / 2)).1)), (1, 1, .c (.i .i64 (E (i / 2)).2.1))], none⟩
  else ⟨none, .mu (.many [.i, .i]) (.t 1) (.t (1 + i / 2)) (.c (.fn (.func (E (i / 2 - 1)).2.2) [] [])), none⟩
def AInv (E : Nat → P3) (sch : List Nat) (e : Env) (m : Sto) : Prop :=
  (∀ k, k < 5 → 1 + 2 * k ∉ sch → e (2 + k) = keyV (E k)) ∧
  ((0 ∈ sch ∧ m = (fun _ => none) ∧ ∀ k, k < 5 → 2 + 2 * k ∈ sch) ∨
   (0 ∉ sch ∧ ∃ (y : Nat) (I : List Nat), e 1 = .mp y ∧ m = Sto.set (fun _ => none) y (some (.map ((I.map E).map keyV) ((I.map E).map fnV) false)) ∧ I.Nodup ∧ ∀ k, k ∈ I ↔ (k < 5 ∧ 2 + 2 * k ∉ sch)))
theorem ainv_step {E : Nat → P3} (hE : ∀ i j, i < 5 → j < 5 → (E i).1 = (E j).1 → (E i).2.1 = (E j).2.1 → i = j) {i : Nat} {sch : List Nat} {e : Env} {m : Sto} (hi : i < 11) (hn : i ∉ sch) (h : AInv E (i :: sch) e m)
    (hb : ∀ k, k < 5 → i = 2 + 2 * k → 0 ∉ sch ∧ 1 + 2 * k ∉ sch) (x : Nat) :
    ∃ q, stepA ctx0 0 (pk E i) e m x = some q ∧ q.2.2.2 = x + 1 ∧ AInv E sch (updE e (pk E i).d q.1) (m.app q.2.1) := by
  obtain ⟨h1, h2⟩ := h
  by_cases hi0 : i = 0
  · subst hi0
    rcases h2 with ⟨_, rfl, h4⟩ | ⟨h3, _⟩
    · refine ⟨(.mp x, [(x, some (.map [] [] false))], POp.tch .mm e x, x + 1), rfl, rfl, ?_, .inr ⟨hn, x, [], ?_, ?_, .nil, fun k => ?_⟩⟩
      · intro k hk hks
        have := h1 k hk (by simp; exact hks)
        show (updE e (some 1) _) (2 + k) = _
        rw [updE_other (by intro hh; simp at hh; omega)]
        exact this
      · simp [updE, Env.set, pk]
      · rfl
      · constructor
        · intro h; cases h
        · rintro ⟨h5, h6⟩
          exact absurd ((List.mem_cons.1 (h4 k h5)).resolve_left (by omega)) h6
    · exact absurd List.mem_cons_self h3
  · by_cases hodd : i % 2 = 1
    · obtain ⟨k, rfl⟩ : ∃ k, i = 1 + 2 * k := ⟨i / 2, by omega⟩
      have hp : pk E (1 + 2 * k) = ⟨some (2 + k), .bd [.i .i64 0, .i .i64 0] [(0, 1, .c (.i .i64 (E k).1)), (1, 1, .c (.i .i64 (E k).2.1))], none⟩ := by
        unfold pk
        rw [if_neg hi0, if_pos hodd, show (1 + 2 * k) / 2 = k by omega]
      rw [hp]
      refine ⟨(keyV (E k), [], POp.tch (.bd [.i .i64 0, .i .i64 0] [(0, 1, .c (.i .i64 (E k).1)), (1, 1, .c (.i .i64 (E k).2.1))]) e x, x + 1), rfl, rfl, ?_, ?_⟩
      · intro j hj hjs
        show (updE e (some (2 + k)) _) (2 + j) = _
        by_cases hjk : j = k
        · subst hjk; simp [updE, Env.set]
        · rw [updE_other (by intro hh; simp at hh; omega)]
          exact h1 j hj (by simp; exact ⟨by omega, hjs⟩)
      · rw [app_nil]
        rcases h2 with ⟨h3, h4, h5⟩ | ⟨h3, y, I, h4, h5, h6, h7⟩
        · exact .inl ⟨(List.mem_cons.1 h3).resolve_left (by omega), h4, fun j hj => (List.mem_cons.1 (h5 j hj)).resolve_left (by omega)⟩
        · refine .inr ⟨fun h => h3 (List.mem_cons_of_mem _ h), y, I, ?_, h5, h6, fun j => ?_⟩
          · show (updE e (some (2 + k)) _) 1 = _
            rw [updE_other (by intro hh; simp at hh; omega)]
            exact h4
          · rw [h7]
            constructor
            · rintro ⟨a, b⟩; exact ⟨a, fun hh => b (List.mem_cons_of_mem _ hh)⟩
            · rintro ⟨a, b⟩; exact ⟨a, fun hh => b ((List.mem_cons.1 hh).resolve_left (by omega))⟩
    · obtain ⟨k, rfl⟩ : ∃ k, i = 2 + 2 * k := ⟨i / 2 - 1, by omega⟩
      have hk : k < 5 := by omega
      obtain ⟨b0, b1⟩ := hb k hk rfl
      have hp : pk E (2 + 2 * k) = ⟨none, .mu (.many [.i, .i]) (.t 1) (.t (2 + k)) (.c (.fn (.func (E k).2.2) [] [])), none⟩ := by
        unfold pk
        rw [if_neg hi0, if_neg hodd, show 1 + (2 + 2 * k) / 2 = 2 + k by omega, show (2 + 2 * k) / 2 - 1 = k by omega]
      rcases h2 with ⟨h3, _⟩ | ⟨h3, y, I, h4, rfl, h6, h7⟩
      · exact absurd ((List.mem_cons.1 h3).resolve_left (by omega)) b0
      have hkey := h1 k hk (fun hh => (List.mem_cons.1 hh).elim (by omega) b1)
      have hkI : k ∉ I := by
        intro hh
        exact ((h7 k).1 hh).2 List.mem_cons_self
      have hfind : findIn (.many [.i, .i]) (keyV (E k)) ((I.map E).map keyV) = some none := by
        unfold findIn keyV
        rw [if_pos (by simp [eqQ, eqL, eqK])]
        have := find_pair (a := (E k).1) (b := (E k).2.1) (L := I.map E) (j := 0)
        unfold keyV at this
        rw [this]
        have hnone : (I.map E).findIdx? (isP (E k).1 (E k).2.1) = none := by
          rw [List.findIdx?_eq_none_iff]
          intro p hp
          obtain ⟨j, hj, rfl⟩ := List.mem_map.1 hp
          by_cases hc : isP (E k).1 (E k).2.1 (E j) = true
          · simp only [isP, Bool.and_eq_true, beq_iff_eq] at hc
            have := hE k j hk ((h7 j).1 hj).1 hc.1 hc.2
            subst this
            exact absurd hj hkI
          · simpa using hc
        rw [hnone]
        rfl
      rw [hp]
      have hm : Sto.set (fun _ => none) y (some (PObj.map ((I.map E).map keyV) ((I.map E).map fnV) false)) y = some (.map ((I.map E).map keyV) ((I.map E).map fnV) false) := Sto.set_same _ _ _
      refine ⟨(.un, [(y, some (.map (((I ++ [k]).map E).map keyV) (((I ++ [k]).map E).map fnV) false))], POp.tch (.mu (.many [.i, .i]) (.t 1) (.t (2 + k)) (.c (.fn (.func (E k).2.2) [] []))) e x, x + 1), ?_, rfl, ?_, ?_⟩
      · simp only [stepA, wanted, opD, Opd.ev, h4, hkey, hm, hfind, Option.map_some]
        simp [fnV]
      · intro j hj hjs
        show e (2 + j) = _
        exact h1 j hj (by simp; exact ⟨by omega, hjs⟩)
      · right
        refine ⟨b0, y, I ++ [k], h4, ?_, ?_, fun j => ?_⟩
        · funext l
          simp only [Sto.app, List.foldl_cons, List.foldl_nil, Sto.set]
          split <;> rfl
        · exact List.nodup_append.2 ⟨h6, by simp, by intro a ha b hb hh; simp at hb; subst hb; subst hh; exact hkI ha⟩
        · rw [List.mem_append, List.mem_singleton, h7]
          constructor
          · rintro (⟨a, b⟩ | rfl)
            · exact ⟨a, fun hh => b (List.mem_cons_of_mem _ hh)⟩
            · exact ⟨hk, hn⟩
          · rintro ⟨a, b⟩
            by_cases hjk : j = k
            · exact .inr hjk
            · exact .inl ⟨a, fun hh => b ((List.mem_cons.1 hh).resolve_left (by omega))⟩
/-- In any order. -/
theorem asks_go (hmx : P.follows .mixedOrders = true) {N : Nat} {ops : Array Go.Oper} {E : Nat → P3} (hE : ∀ i j, i < 5 → j < 5 → (E i).1 = (E j).1 → (E i).2.1 = (E j).2.1 → i = j)
    (hops : ∀ i, i < 11 → ∃ o, ops[i]? = some o ∧ compOper P N ops o = some (pk E i)) (hbf : ∀ k, k < 5 → ((Go.Region.before ops).getD (2 + 2 * k) 0).testBit 0 = true ∧ ((Go.Region.before ops).getD (2 + 2 * k) 0).testBit (1 + 2 * k) = true)
    {b : B} {df : List Go.Deferred} {cs : List Frame} {rest : List Nat} {k : List Item} : ∀ {sch : List Nat} {e : Env} {m : Sto} {x : Nat}, (∀ i ∈ sch, i < 11) → sch.Nodup → sch.Pairwise (fun i j => ((Go.Region.before ops).getD i 0).testBit j = false) → AInv E sch e m →
      ∀ {g : G} {tm : Array Value} {w : World}, ER g e tm → N ≤ tm.size → WR P g m w → (∀ l, x ≤ l → g.rho l = none) →
      ∃ e' m' g' tm' w', AInv E [] e' m' ∧ GE g g' ∧ ER g' e' tm' ∧ N ≤ tm'.size ∧ WR P g' m' w' ∧ WB w w' ∧
        Steps P (lone (b.at tm df (.inRegion ops (sch ++ rest) :: k)) cs w) (lone (b.at tm' df (.inRegion ops rest :: k)) cs w') := by
  intro sch
  induction sch with
  | nil =>
    intro e m x _ _ _ hI g tm w he hs hw hx
    exact ⟨e, m, g, tm, w, hI, GE.refl _, he, hs, hw, WB.refl _, .refl _ _⟩
  | cons i sch IH =>
    intro e m x hlt hn ho hI g tm w he hs hw hx
    have hn2 := List.nodup_cons.1 hn
    have ho2 := List.pairwise_cons.1 ho
    have hi := hlt i List.mem_cons_self
    obtain ⟨q, q1, q2, q3⟩ := ainv_step hE hi hn2.1 hI (fun k hk hik => by
      subst hik
      obtain ⟨c1, c2⟩ := hbf k hk
      constructor
      · intro hh; rw [ho2.1 _ hh] at c1; cases c1
      · intro hh; rw [ho2.1 _ hh] at c2; cases c2) x
    obtain ⟨o, o1, o2⟩ := hops i hi
    obtain ⟨hd, hdN, g1, v1, w1, ge1, old1, wr1, wb1, vr1, st1⟩ := stepA_sound (n := 0) (lnk0 hmx) (fun k hk => absurd hk (by omega)) q1 o1 o2 he hw (fun l hl _ => hx l hl) b df cs (sch ++ rest) k
    have her1 : ER g1 (updE e (pk E i).d q.1) (putT tm o.dst v1) := by
      rw [← hd]
      cases hdd : (pk E i).d with
      | none => exact he.up ge1
      | some t =>
        rw [hdd] at hdN
        exact (he.up ge1).put hs (by simpa using hdN) vr1
    have hs1 : N ≤ (putT tm o.dst v1).size := by
      cases o.dst <;> simp [putT] <;> exact hs
    obtain ⟨e', m', g', tm', w', z1, z2, z3, z4, z5, z6, z7⟩ := IH (x := x + 1) (fun j hj => hlt j (List.mem_cons_of_mem _ hj)) hn2.2 ho2.2 q3 her1 hs1 wr1 (fun l hl => by
      rw [old1 l (by omega)]; exact hx l (by omega))
    exact ⟨e', m', g', tm', w', z1, ge1.trans z2, z3, z4, z5, wb1.trans z6, st1.trans z7⟩
theorem key_inj : ∀ {L L' : List P3}, L.map keyV = L'.map keyV → L.map fnV = L'.map fnV → L = L'
  | [], [], _, _ => rfl
  | [], _ :: _, h, _ => by simp at h
  | _ :: _, [], h, _ => by simp at h
  | p :: L, q :: L', h, h' => by
    simp only [List.map_cons, List.cons.injEq] at h h'
    have h1 := h.1
    have h2 := h'.1
    simp only [keyV, fnV, V.ag.injEq, List.cons.injEq, V.i.injEq, V.fn.injEq, Fn.func.injEq, true_and, and_true] at h1 h2
    rw [key_inj h.2 h'.2, show p = q from Prod.ext h1.1 (Prod.ext h1.2 h2)]
theorem pr_key {ro : Ro} {r : Rho} : ∀ {L : List P3} {l : List Value}, PR ro (L.map keyV) r l → l.length = L.length → l = L.map (fun p => Value.agg #[.int .i64 p.1, .int .i64 p.2.1])
  | [], l, _, hl => List.eq_nil_of_length_eq_zero (by simpa using hl)
  | p :: L, l, h, hl => by
    simp only [List.map_cons, PR] at h
    obtain ⟨v, rr, rfl, h1, h2⟩ := h
    simp only [keyV, VR] at h1
    obtain ⟨arr, rfl, h3, _, ⟨v1, r1, e1, rfl, ⟨v2, r2, rfl, rfl, _⟩⟩⟩ := h1
    have hr2 : r2 = [] := by
      have := congrArg List.length e1
      simp at this h3
      exact List.eq_nil_of_length_eq_zero (by omega)
    subst hr2
    have he : arr = #[.int .i64 p.1, .int .i64 p.2.1] := by
      apply Array.ext'
      simpa using e1
    rw [List.map_cons, he, pr_key h2 (by simpa using hl)]
theorem pr_fn {ro : Ro} {r : Rho} : ∀ {L : List P3} {l : List Value}, PR ro (L.map fnV) r l → l.length = L.length → l = L.map (fun p => Value.func (.func p.2.2) #[] #[])
  | [], l, _, hl => List.eq_nil_of_length_eq_zero (by simpa using hl)
  | p :: L, l, h, hl => by
    simp only [List.map_cons, PR] at h
    obtain ⟨v, rr, rfl, h1, h2⟩ := h
    simp only [fnV, VR] at h1
    obtain ⟨f', a', c', rfl, h3, h4, h5, _⟩ := h1
    have h3' : f' = .func p.2.2 := h3
    have ha : a' = #[] := Array.eq_empty_of_size_eq_zero h4.symm
    have hc : c' = #[] := Array.eq_empty_of_size_eq_zero h5.symm
    rw [List.map_cons, h3', ha, hc, pr_fn h2 (by simpa using hl)]
theorem vr_mapO {ro : Ro} {r : Rho} {v : Value} {L L' : List P3} (h : VR ro (.rm (L.map keyV) (L.map fnV)) r v) (hp : L.Perm L') (hn : (L'.map fun p => (p.1, p.2.1)).Nodup) : VR ro (.rm (L'.map keyV) (L'.map fnV)) r v := by
  simp only [VR] at h ⊢
  rcases h with ⟨h1, h2, h3⟩ | ⟨b, es, ck, h1, h2, h3, h4, h5, h6⟩ | ⟨b, es, ck, h1, h2, L1, L2, h3, h4, h5, h6, h7, h8⟩
  · have : L = [] := by simpa using h1
    subst this
    have := List.nil_perm.1 hp
    subst this
    exact .inl ⟨rfl, rfl, h3⟩
  · right; right
    simp at h3 h4
    exact ⟨b, es, ck, h1, h2, L, L', hp, hn, rfl, rfl, pr_key h5 (by simp [h3]), pr_fn h6 (by simp [h4])⟩
  · right; right
    have := key_inj h5 h6
    subst this
    exact ⟨b, es, ck, h1, h2, L1, L', h3.trans hp, hn, rfl, rfl, h7, h8⟩
theorem frzL_map {D : Nat → Option (Bool × List V × List V × List Nat)} {f : P3 → V} (h : ∀ p, frzW D (f p) = some (f p, [])) : ∀ L : List P3, frzL D (L.map f) = some (L.map f, [])
  | [] => by simp [frzL]
  | p :: L => by simp [frzL, h, frzL_map h L]
theorem freeze_map {m : Sto} {y : Nat} {L : List P3} (h : m y = some (.map (L.map keyV) (L.map fnV) false)) : freeze m (.mp y) = some (.rm (L.map keyV) (L.map fnV), [y]) := by
  have hk : ∀ (D : Nat → Option (Bool × List V × List V × List Nat)) p, frzW D (keyV p) = some (keyV p, []) := fun D p => by simp [keyV, frzW, frzL]
  have hf : ∀ (D : Nat → Option (Bool × List V × List V × List Nat)) p, frzW D (fnV p) = some (fnV p, []) := fun D p => by simp [fnV, frzW, frzL]
  unfold freeze frzW
  rw [show der m DEEP y = der m (DEEP - 1 + 1) y from rfl, der.eq_2]
  simp only [h, frzL_map (hk _), frzL_map (hf _), Option.bind_some, if_true]
  rfl
theorem asks_prim (hmx : P.follows .mixedOrders = true) {f : Nat} {fn : Go.Func} (hf : P.funcs[f]? = some fn) (hnm : fn.name ≠ "runtime.NumGoroutine") {i0 i1 : Nat} {o0 o11 o12 : Go.Oper} {ops : Array Go.Oper} {E : Nat → P3}
    (hbody : fn.body = some (.seq (.region i0 #[o0] false) (.seq (.region i1 ops true) .ret))) (q0 : IsOp o0 0 (.assign (.const (.map none)))) (hnt : fn.ntmps = 8) (hres : fn.results = #[.tmp 0])
    (hE : ∀ i j, i < 5 → j < 5 → (E i).1 = (E j).1 → (E i).2.1 = (E j).2.1 → i = j) (hsz : ops.size = 13)
    (hops : ∀ i, i < 11 → ∃ o, ops[i]? = some o ∧ compOper P 8 ops o = some (pk E i)) (hbf : ∀ k, k < 5 → ((Go.Region.before ops).getD (2 + 2 * k) 0).testBit 0 = true ∧ ((Go.Region.before ops).getD (2 + 2 * k) 0).testBit (1 + 2 * k) = true)
    (hed : edgesOk ops = true) (hj : isJoint (Go.Region.before ops) ops.size 11 = true) (h11 : ops[11]? = some o11) (q11 : IsOp o11 7 (.move (.tmp 1))) (h12 : ops[12]? = some o12) (q12 : IsOp o12 0 (.assign (.tmp 7))) :
    PrimOK P f (constH (.rm (((List.range 5).map E).map keyV) (((List.range 5).map E).map fnV))) := by
  refine ⟨⟨fn, hf, hnm, by simp [hbody]⟩, ?_, ?_⟩
  · intro as m x v ws hh
    match as, hh with
    | [], hh =>
      simp only [constH, Option.some.injEq, Prod.mk.injEq] at hh
      obtain ⟨rfl, rfl⟩ := hh
      exact ⟨fun _ _ => rfl, fun p hp => nomatch hp⟩
  · intro as m x v ws g w args hh hp hl hw hrho hm fr cs
    match as, hh with
    | [], hh =>
      simp only [constH, Option.some.injEq, Prod.mk.injEq] at hh
      obtain ⟨rfl, rfl⟩ := hh
      have ha : args = #[] := Array.eq_empty_of_size_eq_zero (by simpa using hl.symm)
      subst ha
      let b : B := ⟨f, .normal, none⟩
      have hframe : Frame.enter P f #[] .normal = b.at (#[] ++ Array.replicate 8 undef) [] [.code (.seq (.region i0 #[o0] false) (.seq (.region i1 ops true) .ret))] := by
        simp [Frame.enter, hf, hbody, B.at, b, hnt]
      obtain ⟨tm0, htm0⟩ : ∃ tm0 : Array Value, tm0 = (#[] ++ Array.replicate 8 undef).setIfInBounds 0 (.map none) := ⟨_, rfl⟩
      have hs0 : 8 ≤ tm0.size := by rw [htm0]; simp
      have stA : Steps P (lone (Frame.enter P f #[] .normal) (fr :: cs) w) (lone (b.at tm0 [] [.inRegion ops (Go.Region.linearise .any ops (w.tape w.drawn (.order b.fn i1))), .code .ret]) (fr :: cs) { w with drawn := w.drawn + 1 }) := by
        rw [hframe, htm0]
        refine .trans (.one s_seq) ?_
        refine .trans (.one s_region) ?_
        refine .trans (s_at (o := o0) rfl rfl q0 (v := .map none) (w' := w) (by simp [Go.execOp, q0.2.2, evT])) ?_
        refine .trans (.one s_region_end) ?_
        refine .trans (.one s_seq) ?_
        have := s_region_draw (P := P) (b := b) (tm := (#[] ++ Array.replicate 8 undef).setIfInBounds 0 (.map none)) (df := []) (k := [.code .ret]) (cs := fr :: cs) (w := w) (id := i1) (ops := ops)
        rw [hmx] at this
        exact .one (by simpa [Go.Region.schedule] using this)
      obtain ⟨l1, l2⟩ := linear_ok hed (w.tape w.drawn (.order b.fn i1))
      generalize Go.Region.linearise .any ops (w.tape w.drawn (.order b.fn i1)) = sch at stA l1 l2
      obtain ⟨A, Bs, rfl, hA, hB, hA2, _⟩ := joint_split hj (by omega) (by omega) (lo := 0) (by simpa using l1) l2
      rw [hsz] at hB
      have hBs : Bs = [12] := List.perm_singleton.1 hB
      subst hBs
      have hmem : ∀ i, i ∈ A ↔ i < 11 := fun i => by rw [hA.mem_iff, List.mem_range'_1]; omega
      obtain ⟨w2, hw2⟩ : ∃ w2 : World, w2 = { w with drawn := w.drawn + 1 } := ⟨_, rfl⟩
      rw [← hw2] at stA
      have hww : WR P g m w2 := hw.heap (by rw [hw2])
      have wb0 : WB w w2 := by rw [hw2]; exact ⟨rfl, rfl, rfl, Nat.le_refl _⟩
      obtain ⟨e', m', g1, tm1, w1, z1, z2, z3, z4, z5, z6, z7⟩ := asks_go hmx hE hops hbf (b := b) (df := []) (cs := fr :: cs) (rest := [11, 12]) (k := [.code .ret]) (sch := A) (e := fun _ => .un) (m := fun _ => none) (x := 0)
        (fun i hi => (hmem i).1 hi) (by rw [hA.nodup_iff]; exact List.nodup_range') hA2 ⟨fun k hk hh => absurd ((hmem _).2 (by omega)) hh, .inl ⟨(hmem _).2 (by omega), rfl, fun k hk => (hmem _).2 (by omega)⟩⟩
        (g := shut g [] w2) (tm := tm0) (w := w2) (fun t => by simp [VR]) hs0 (shut_wr hww []) (fun _ _ => rfl)
      obtain ⟨y, I, y1, y2, y3, y4⟩ : ∃ (y : Nat) (I : List Nat), e' 1 = .mp y ∧ m' = Sto.set (fun _ => none) y (some (.map ((I.map E).map keyV) ((I.map E).map fnV) false)) ∧ I.Nodup ∧ ∀ k, k ∈ I ↔ (k < 5 ∧ 2 + 2 * k ∉ ([] : List Nat)) := by
        rcases z1.2 with ⟨y1, _⟩ | ⟨_, y1⟩
        · cases y1
        · exact y1
      have hv1 : VR g1.ro (.mp y) g1.rho (tm1.getD 1 undef) := y1 ▸ z3 1
      have hfz : freeze m' (.mp y) = some (.rm ((I.map E).map keyV) ((I.map E).map fnV), [y]) := freeze_map (by rw [y2, Sto.set_same])
      obtain ⟨k1, _, g', k3, k4, k5, k6⟩ := closed_ok hww (ids := []) (fun l hl => by cases hl) z2 z5 z6 hv1 hfz
      have hIp : I.Perm (List.range 5) := (List.perm_ext_iff_of_nodup y3 List.nodup_range).2 fun k => by rw [y4, List.mem_range]; simp
      have hnd : (((List.range 5).map E).map fun p => (p.1, p.2.1)).Nodup := by
        rw [List.map_map]
        refine List.pairwise_map.2 (List.Pairwise.imp_of_mem ?_ (List.nodup_range (n := 5)))
        intro i j hi hj hij hh
        simp only [Function.comp, Prod.mk.injEq] at hh
        exact hij (hE i j (List.mem_range.1 hi) (List.mem_range.1 hj) hh.1 hh.2)
      refine ⟨tm1.getD 1 undef, w1, g', k4, fun l hl => by rw [k3], vr_mapO k6 (hIp.map E) hnd, k5, wb0.trans z6, stA.trans ?_⟩
      refine .trans z7 ?_
      refine .trans (s_at (o := o11) h11 rfl q11 (v := tm1.getD 1 undef) (w' := w1) (by simp [Go.execOp, q11.2.2, evT])) ?_
      have h7 : (tm1.setIfInBounds 7 (tm1.getD 1 undef)).getD 7 undef = tm1.getD 1 undef := by
        simp only [Array.getD, Array.size_setIfInBounds]
        rw [dif_pos (by omega)]
        simp
      refine .trans (s_at (o := o12) h12 rfl q12 (v := tm1.getD 1 undef) (w' := w1) (by simp only [Go.execOp, q12.2.2, evT, h7]; rfl)) ?_
      refine .trans (.one s_region_end) ?_
      refine .trans (.one (s_ret rfl)) ?_
      refine .one (s_return rfl rfl rfl hf ?_ fr)
      have h0 : ((tm1.setIfInBounds 7 (tm1.getD 1 undef)).setIfInBounds 0 (tm1.getD 1 undef)).getD 0 undef = tm1.getD 1 undef := by
        simp only [Array.getD, Array.size_setIfInBounds]
        rw [dif_pos (by omega)]
        simp
      simp only [Go.results, hres, B.at]
      simp [evT, h0]
      intro hh
      rw [hh] at z4
      simp at z4
end
end Pi

