/- What a run comes to, without fuel: rules for proofs. -/
import Derived.Test.YtglibfclhecbkaaYPi1
set_option linter.unusedSimpArgs false
set_option linter.unusedVariables false
namespace Pi
open Go (IntKind TypeId FuncId Fn BinOp UnOp LoopState)

def bs (l : List Nat) : ByteArray := ⟨(l.map UInt8.ofNat).toArray⟩

/-- From some number on. -/
def Ev (p : Nat → Prop) : Prop := ∃ n, ∀ k, n ≤ k → p k

theorem Ev.succ {p : Nat → Prop} (h : Ev fun k => p (k + 1)) : Ev p := by
  obtain ⟨n, h⟩ := h
  refine ⟨n + 1, fun k hk => ?_⟩
  obtain ⟨j, rfl⟩ : ∃ j, k = j + 1 := ⟨k - 1, by omega⟩
  exact h j (by omega)
theorem Ev.mono {p q : Nat → Prop} (h : Ev p) (hh : ∀ k, p k → q k) : Ev q := let ⟨n, h⟩ := h; ⟨n, fun k hk => hh k (h k hk)⟩
theorem Ev.and {p q : Nat → Prop} (h : Ev p) (h' : Ev q) : Ev fun k => p k ∧ q k := by
  obtain ⟨n, h⟩ := h
  obtain ⟨m, h'⟩ := h'
  exact ⟨max n m, fun k hk => ⟨h k (by omega), h' k (by omega)⟩⟩
theorem Ev.all {p : Nat → Prop} (h : ∀ k, p k) : Ev p := ⟨0, fun k _ => h k⟩
theorem Ev.one {α : Type} {f : Nat → Option α} {a b : α} (h : Ev fun k => f k = some a) (h' : Ev fun k => f k = some b) : a = b := by
  obtain ⟨n, h⟩ := h.and h'
  have h1 : f n = some a ∧ f n = some b := h n (Nat.le_refl _)
  rw [h1.1] at h1
  exact Option.some.inj h1.2

def Runs (C : Ctx) (c : PCode) (s : S) (x : X) (s' : S) : Prop := Ev fun k => exec C k c s = some (x, s')
def RunsO (C : Ctx) (l : List POper) (s : S) (x : X) (s' : S) : Prop := Ev fun k => runOps C k l s = some (x, s')
def RunsS (C : Ctx) (l : List Seg) (s : S) (x : X) (s' : S) : Prop := Ev fun k => runSegs C k l s = some (x, s')
def RunsA (C : Ctx) (l : List POper) (s : S) (ts : List (List Nat)) (s' : S) (ts' : List (List Nat)) : Prop := Ev fun k => runAny C k l s ts = some (s', ts')
/-- A function value's call. -/
def Call (C : Ctx) (f : V) (args : List V) (m : Sto) (x : Nat) (cr : CR) (m' : Sto) (x' : Nat) : Prop := Ev fun k => callV C k f args m x = some (cr, m', x')
def Quiet (C : Ctx) (f : V) (args : List V) (m : Sto) (x : Nat) (q : QR) : Prop := Ev fun k => callQ C k f args m x = some q
/-- A function's run. -/
def Ent (C : Ctx) (g : Nat) (as : List V) (m : Sto) (x : Nat) (rv : Option V) (cr : CR) (m' : Sto) (x' : Nat) (rv' : Option V) : Prop := Ev fun k => enter C k g as m x rv = some (cr, m', x', rv')
def Leav (C : Ctx) (F : PFun) (s : S) (pn : Option V) (cr : CR) (m' : Sto) (x' : Nat) (rv' : Option V) : Prop := Ev fun k => leave C k F s pn = some (cr, m', x', rv')

def wpCall (C : Ctx) (f : V) (args : List V) (m : Sto) (x : Nat) (K : CR → Sto → Nat → Prop) : Prop := ∃ cr m' x', Call C f args m x cr m' x' ∧ K cr m' x'
def wpQuiet (C : Ctx) (f : V) (args : List V) (m : Sto) (x : Nat) (K : QR → Prop) : Prop := ∃ q, Quiet C f args m x q ∧ K q

theorem wpCall_eq {C : Ctx} {f : V} {args : List V} {m : Sto} {x : Nat} {K : CR → Sto → Nat → Prop} {cr : CR} {m' : Sto} {x' : Nat} (h : Call C f args m x cr m' x') : wpCall C f args m x K = K cr m' x' := by
  apply propext
  constructor
  · rintro ⟨cr2, m2, x2, h2, h3⟩
    have := Ev.one h h2
    simp only [Prod.mk.injEq] at this
    obtain ⟨rfl, rfl, rfl⟩ := this
    exact h3
  · intro h3
    exact ⟨_, _, _, h, h3⟩

theorem wpQuiet_eq {C : Ctx} {f : V} {args : List V} {m : Sto} {x : Nat} {K : QR → Prop} {q : QR} (h : Quiet C f args m x q) : wpQuiet C f args m x K = K q := by
  apply propext
  constructor
  · rintro ⟨q2, h2, h3⟩
    rw [Ev.one h h2]
    exact h3
  · intro h3
    exact ⟨_, h, h3⟩

/-- Operations in order. -/
def wpOps (C : Ctx) : List POper → S → (X → S → Prop) → Prop
  | [], s, Q => Q .nor s
  | p :: r, s, Q =>
    match wanted p.g s.e with
    | none => False
    | some false => wpOps C r (s.put p.d (.tu [])) Q
    | some true =>
      match p.o with
      | .ca f args => wpCall C (f.ev s.e) (args.map (Opd.ev s.e)) s.m s.x fun cr m' x' => match cr with
        | .ret v => wpOps C r ({ s with m := m', x := x' }.put p.d v) Q
        | .pan v => Q (.pan v) { s with m := m', x := x' }
      | .pa x => match x.ev s.e with
        | .fc t v => Q (.pan (.fc t v)) s
        | _ => False
      | .df f args => match f.ev s.e with
        | .fn (.func g) a c => if s.rd.isSome then False else wpOps C r ({ s with ds := .call (.fn (.func g) a c) (args.map (Opd.ev s.e)) :: s.ds }.put p.d (.tu [])) Q
        | _ => False
      | .rc => match s.rv with
        | some v => wpOps C r ({ s with rv := none }.put p.d v) Q
        | none => False
      | o => match opD o s.e s.m s.x with
        | some q => wpOps C r ({ s with m := s.m.app q.2, x := s.x + 1 }.put p.d q.1) Q
        | none => False

/-- Operations of open order. -/
def wpAny (C : Ctx) : List POper → S → List (List Nat) → (S → List (List Nat) → Prop) → Prop
  | [], s, ts, Q => Q s ts.reverse
  | p :: r, s, ts, Q =>
    match wanted p.g s.e with
    | none => False
    | some false => wpAny C r (s.put p.d (.tu [])) ([] :: ts) Q
    | some true =>
      match p.o with
      | .ca f args => wpQuiet C (f.ev s.e) (args.map (Opd.ev s.e)) s.m s.x fun q => wpAny C r ({ s with m := s.m.app q.ws, x := q.x }.put p.d q.v) (q.ids :: ts) Q
      | .pa _ | .df _ _ | .rc => False
      | o => match opD o s.e s.m s.x with
        | some q => wpAny C r ({ s with m := s.m.app q.2, x := s.x + 1 }.put p.d q.1) (o.tch s.e s.x :: ts) Q
        | none => False

def wpSegs (C : Ctx) : List Seg → S → (X → S → Prop) → Prop
  | [], s, Q => Q .nor s
  | .seq ops :: r, s, Q => wpOps C ops s fun x s' => match x with
    | .nor => wpSegs C r s' Q
    | x => Q x s'
  | .any ops prs :: r, s, Q => wpAny C ops s [] fun s' ts => apartAll ts prs = true ∧ wpSegs C r s' Q

def wp (C : Ctx) : PCode → S → (X → S → Prop) → Prop
  | .skip, s, Q => Q .nor s
  | .reg segs, s, Q => wpSegs C segs s Q
  | .seq a b, s, Q => wp C a s fun x s' => match x with
    | .nor => wp C b s' Q
    | x => Q x s'
  | .cond c a b, s, Q => match c.ev s.e with
    | .b t => if t then wp C a s Q else wp C b s Q
    | _ => False
  | .block id c, s, Q => wp C c s fun x s' => match x with
    | .exit id' => Q (if id' = id then .nor else .exit id') s'
    | x => Q x s'
  | .loop c, s, Q => ∃ x s', Runs C (.loop c) s x s' ∧ Q x s'
  | .scope c, s, Q => wp C c s Q
  | .exit id, s, Q => Q (.exit id) s
  | .ret, s, Q => Q .ret s
  | .rf f ps a b, s, Q => ∃ x s', Runs C (.rf f ps a b) s x s' ∧ Q x s'

section
variable {C : Ctx}

theorem wpOps_ok : ∀ {l : List POper} {s : S} {Q : X → S → Prop}, wpOps C l s Q → ∃ x s', RunsO C l s x s' ∧ Q x s'
  | [], s, Q, h => ⟨.nor, s, Ev.succ (.all fun k => by simp [runOps]), h⟩
  | p :: r, s, Q, h => by
    unfold wpOps at h
    cases hw : wanted p.g s.e with
    | none => rw [hw] at h; exact h.elim
    | some c =>
      rw [hw] at h
      cases c with
      | false =>
        obtain ⟨x, s', h1, h2⟩ := wpOps_ok h
        exact ⟨x, s', Ev.succ (h1.mono fun k hk => by simp only [runOps, hw]; exact hk), h2⟩
      | true =>
        simp only at h
        cases ho : p.o with
        | ca f args =>
          simp only [ho] at h
          obtain ⟨cr, m', x', h1, h2⟩ := h
          cases cr with
          | ret v =>
            obtain ⟨x, s', h3, h4⟩ := wpOps_ok h2
            exact ⟨x, s', Ev.succ ((h1.and h3).mono fun k hk => by simp only [runOps, hw, ho, hk.1, Option.bind_some]; exact hk.2), h4⟩
          | pan v => exact ⟨_, _, Ev.succ (h1.mono fun k hk => by simp only [runOps, hw, ho, hk, Option.bind_some]), h2⟩
        | pa y =>
          simp only [ho] at h
          split at h
          · rename_i t v hv
            exact ⟨_, _, Ev.succ (.all fun k => by simp only [runOps, hw, ho, hv]), h⟩
          · exact h.elim
        | df f args =>
          simp only [ho] at h
          split at h
          · rename_i g a c hv
            split at h
            · exact h.elim
            · rename_i hrd
              obtain ⟨x, s', h3, h4⟩ := wpOps_ok h
              exact ⟨x, s', Ev.succ (h3.mono fun k hk => by simp only [runOps, hw, ho, hv]; rw [if_neg hrd]; exact hk), h4⟩
          · exact h.elim
        | rc =>
          simp only [ho] at h
          split at h
          · rename_i v hv
            obtain ⟨x, s', h3, h4⟩ := wpOps_ok h
            exact ⟨x, s', Ev.succ (h3.mono fun k hk => by simp only [runOps, hw, ho, hv]; exact hk), h4⟩
          · exact h.elim
        | _ =>
          simp only [ho] at h
          split at h
          · rename_i q hq
            obtain ⟨x, s', h3, h4⟩ := wpOps_ok h
            exact ⟨x, s', Ev.succ (h3.mono fun k hk => by simp only [runOps, hw, ho, hq, Option.bind_some]; exact hk), h4⟩
          · exact h.elim

theorem wpAny_ok : ∀ {l : List POper} {s : S} {ts : List (List Nat)} {Q : S → List (List Nat) → Prop}, wpAny C l s ts Q → ∃ s' ts', RunsA C l s ts s' ts' ∧ Q s' ts'
  | [], s, ts, Q, h => ⟨s, ts.reverse, Ev.succ (.all fun k => by simp [runAny]), h⟩
  | p :: r, s, ts, Q, h => by
    unfold wpAny at h
    cases hw : wanted p.g s.e with
    | none => rw [hw] at h; exact h.elim
    | some c =>
      rw [hw] at h
      cases c with
      | false =>
        obtain ⟨x, s', h1, h2⟩ := wpAny_ok h
        exact ⟨x, s', Ev.succ (h1.mono fun k hk => by simp only [runAny, hw]; exact hk), h2⟩
      | true =>
        simp only at h
        cases ho : p.o with
        | ca f args =>
          simp only [ho] at h
          obtain ⟨q, h1, h2⟩ := h
          obtain ⟨x, s', h3, h4⟩ := wpAny_ok h2
          exact ⟨x, s', Ev.succ ((h1.and h3).mono fun k hk => by simp only [runAny, hw, ho, hk.1, Option.bind_some]; exact hk.2), h4⟩
        | pa y => simp only [ho] at h
        | df f args => simp only [ho] at h
        | rc => simp only [ho] at h
        | _ =>
          simp only [ho] at h
          split at h
          · rename_i q hq
            obtain ⟨x, s', h3, h4⟩ := wpAny_ok h
            exact ⟨x, s', Ev.succ (h3.mono fun k hk => by simp only [runAny, hw, ho, hq, Option.bind_some]; exact hk), h4⟩
          · exact h.elim

theorem wpSegs_ok : ∀ {l : List Seg} {s : S} {Q : X → S → Prop}, wpSegs C l s Q → ∃ x s', RunsS C l s x s' ∧ Q x s'
  | [], s, Q, h => ⟨.nor, s, Ev.succ (.all fun k => by simp [runSegs]), h⟩
  | .seq ops :: r, s, Q, h => by
    simp only [wpSegs] at h
    obtain ⟨x, s1, h1, h2⟩ := wpOps_ok h
    cases x with
    | nor =>
      obtain ⟨x2, s2, h3, h4⟩ := wpSegs_ok h2
      exact ⟨x2, s2, Ev.succ ((h1.and h3).mono fun k hk => by simp only [runSegs, hk.1, Option.bind_some]; exact hk.2), h4⟩
    | _ => exact ⟨_, _, Ev.succ (h1.mono fun k hk => by simp only [runSegs, hk, Option.bind_some]), h2⟩
  | .any ops prs :: r, s, Q, h => by
    simp only [wpSegs] at h
    obtain ⟨s1, ts, h1, h2, h3⟩ := wpAny_ok h
    obtain ⟨x2, s2, h4, h5⟩ := wpSegs_ok h3
    exact ⟨x2, s2, Ev.succ ((h1.and h4).mono fun k hk => by simp only [runSegs, hk.1, Option.bind_some, h2, if_true]; exact hk.2), h5⟩

theorem wp_ok : ∀ {c : PCode} {s : S} {Q : X → S → Prop}, wp C c s Q → ∃ x s', Runs C c s x s' ∧ Q x s'
  | .skip, s, Q, h => ⟨.nor, s, Ev.succ (.all fun k => by simp [exec]), h⟩
  | .reg segs, s, Q, h => by
    simp only [wp] at h
    obtain ⟨x, s', h1, h2⟩ := wpSegs_ok h
    exact ⟨x, s', Ev.succ (h1.mono fun k hk => by simp only [exec]; exact hk), h2⟩
  | .seq a b, s, Q, h => by
    simp only [wp] at h
    obtain ⟨x, s1, h1, h2⟩ := wp_ok h
    cases x with
    | nor =>
      obtain ⟨x2, s2, h3, h4⟩ := wp_ok h2
      exact ⟨x2, s2, Ev.succ ((h1.and h3).mono fun k hk => by simp only [exec, hk.1, Option.bind_some]; exact hk.2), h4⟩
    | _ => exact ⟨_, _, Ev.succ (h1.mono fun k hk => by simp only [exec, hk, Option.bind_some]), h2⟩
  | .cond c a b, s, Q, h => by
    simp only [wp] at h
    split at h
    · rename_i t ht
      cases t with
      | true =>
        obtain ⟨x, s', h1, h2⟩ := wp_ok (by simpa using h)
        exact ⟨x, s', Ev.succ (h1.mono fun k hk => by simp only [exec, ht, if_true]; exact hk), h2⟩
      | false =>
        obtain ⟨x, s', h1, h2⟩ := wp_ok (by simpa using h)
        exact ⟨x, s', Ev.succ (h1.mono fun k hk => by simp only [exec, ht, Bool.false_eq_true, if_false]; exact hk), h2⟩
    · exact h.elim
  | .block id c, s, Q, h => by
    simp only [wp] at h
    obtain ⟨x, s1, h1, h2⟩ := wp_ok h
    cases x with
    | exit id' => exact ⟨_, _, Ev.succ (h1.mono fun k hk => by simp only [exec, hk, Option.bind_some]), h2⟩
    | _ => exact ⟨_, _, Ev.succ (h1.mono fun k hk => by simp only [exec, hk, Option.bind_some]), h2⟩
  | .loop c, s, Q, h => h
  | .scope c, s, Q, h => by
    simp only [wp] at h
    obtain ⟨x, s', h1, h2⟩ := wp_ok h
    exact ⟨x, s', Ev.succ (h1.mono fun k hk => by simp only [exec]; exact hk), h2⟩
  | .exit id, s, Q, h => ⟨_, _, Ev.succ (.all fun k => by simp only [exec]), h⟩
  | .ret, s, Q, h => ⟨_, _, Ev.succ (.all fun k => by simp only [exec]), h⟩
  | .rf f ps a b, s, Q, h => h

/-- A loop, by what holds at each round's start and a number that goes down. -/
theorem loop_ok {c : PCode} (Inv : Nat → S → Prop) {Q : X → S → Prop} (step : ∀ k s, Inv k s → wp C c s fun x s' => match x with | .nor => ∃ j, j < k ∧ Inv j s' | x => Q x s') :
    ∀ {k : Nat} {s : S}, Inv k s → ∃ x s', Runs C (.loop c) s x s' ∧ Q x s' := by
  intro k
  induction k using Nat.strongRecOn with
  | ind k ih =>
    intro s hs
    obtain ⟨x, s1, h1, h2⟩ := wp_ok (step k s hs)
    cases x with
    | nor =>
      obtain ⟨j, hj, h3⟩ := h2
      obtain ⟨x2, s2, h4, h5⟩ := ih j hj h3
      exact ⟨x2, s2, Ev.succ ((h1.and h4).mono fun k hk => by simp only [exec, hk.1, Option.bind_some]; exact hk.2), h5⟩
    | _ => exact ⟨_, _, Ev.succ (h1.mono fun k hk => by simp only [exec, hk, Option.bind_some]), h2⟩

/-- A function's run, without anything deferred. -/
theorem ent_ok {g : Nat} {F : PFun} {as : List V} {m : Sto} {x : Nat} {rv : Option V} (hF : C.fns g = some F) {cr : CR} {m' : Sto} {x' : Nat} {rv' : Option V}
    (h : wp C F.code ⟨envOf as, m, x, [], rv, none⟩ fun xx s' => match xx with
      | .pan v => Leav C F s' (some v) cr m' x' rv'
      | .nor => Leav C F s' none cr m' x' rv'
      | .ret => Leav C F s' none cr m' x' rv'
      | .exit _ => False) : Ent C g as m x rv cr m' x' rv' := by
  obtain ⟨xx, s1, h1, h2⟩ := wp_ok h
  cases xx with
  | pan v => exact Ev.succ ((h1.and h2).mono fun k hk => by simp only [enter, hF, Option.bind_some, hk.1]; exact hk.2)
  | nor => exact Ev.succ ((h1.and h2).mono fun k hk => by simp only [enter, hF, Option.bind_some, hk.1]; exact hk.2)
  | ret => exact Ev.succ ((h1.and h2).mono fun k hk => by simp only [enter, hF, Option.bind_some, hk.1]; exact hk.2)
  | exit id => exact h2.elim

theorem leav_none {F : PFun} {s : S} {v : V} (hd : s.ds = []) (h : result s.e s.m F.rs = some v) : Leav C F s none (.ret v) s.m s.x s.rv :=
  Ev.succ (.all fun k => by unfold leave; simp only [hd, h, Option.map_some])
theorem leav_pan {F : PFun} {s : S} {v : V} (hd : s.ds = []) : Leav C F s (some v) (.pan v) s.m s.x s.rv :=
  Ev.succ (.all fun k => by unfold leave; simp only [hd])
theorem leav_mark {F : PFun} {s : S} {pn : Option V} {l : Nat} {r : List D} {cr : CR} {m' : Sto} {x' : Nat} {rv' : Option V} (hd : s.ds = .mark l :: r) (hm : s.m l = some .dfr)
    (h : Leav C F { s with m := s.m.set l none, ds := r } pn cr m' x' rv') : Leav C F s pn cr m' x' rv' :=
  Ev.succ (h.mono fun k hk => by rw [leave.eq_def]; simp only [hd, hm]; exact hk)

/-- A closed call. -/
theorem call_closed {g : Nat} {first cap args : List V} {m : Sto} {x : Nat} (hp : C.prim g = none) (ho : C.opn g = false) {a : List V × List Nat} (hz : freezeL m (first ++ args ++ cap) = some a) {v : V} {m1 : Sto} {x1 : Nat} {rv1 : Option V}
    (h : Ent C g a.1 (fun _ => none) 0 none (.ret v) m1 x1 rv1) {w : V × List Nat} (hw : freeze m1 v = some w) :
    Call C (.fn (.func g) first cap) args m x (.ret w.1) (if w.1.scal then m else markRo m a.2) x :=
  Ev.succ (h.mono fun k hk => by unfold callV; simp only [hp, ho, Bool.false_eq_true, if_false, hz, hk, Option.bind_some, hw])

/-- An open call. -/
theorem call_open {g : Nat} {first cap args : List V} {m : Sto} {x : Nat} (hp : C.prim g = none) (ho : C.opn g = true ∨ freezeL m (first ++ args ++ cap) = none) {cr : CR} {m1 : Sto} {x1 : Nat} {rv1 : Option V}
    (h : Ent C g (first ++ args ++ cap) m x none cr m1 x1 rv1) : Call C (.fn (.func g) first cap) args m x cr m1 x1 :=
  Ev.succ (h.mono fun k hk => by
    unfold callV
    have : (if C.opn g = true then none else freezeL m (first ++ args ++ cap)) = none := by
      rcases ho with ho | ho
      · rw [if_pos ho]
      · rw [ho]; split <;> rfl
    simp only [hp, this, hk, Option.map_some])

end
end Pi
