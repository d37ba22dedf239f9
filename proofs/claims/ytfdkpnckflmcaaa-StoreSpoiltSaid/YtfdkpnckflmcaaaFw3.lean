/- A value-level interpreter of the compiled code, its soundness and its rules, part 3. -/
import Derived.Test.YtfdkpnckflmcaaaFw2
import Derived.Carry
import Derived.ChangeArms
import Derived.DataReads
set_option linter.unusedSimpArgs false
set_option linter.unusedVariables false
/- More fuel tells the same. -/
namespace Pi
open Go (IntKind TypeId FuncId Fn BinOp UnOp LoopState)

section
variable {C : Ctx}

structure More (C : Ctx) (n : Nat) : Prop where
  exec : ∀ {c s r}, exec C n c s = some r → exec C (n + 1) c s = some r
  segs : ∀ {c s r}, runSegs C n c s = some r → runSegs C (n + 1) c s = some r
  ops : ∀ {c s r}, runOps C n c s = some r → runOps C (n + 1) c s = some r
  any : ∀ {c s t r}, runAny C n c s t = some r → runAny C (n + 1) c s t = some r
  quiet : ∀ {f a m x r}, callQ C n f a m x = some r → callQ C (n + 1) f a m x = some r
  call : ∀ {f a m x r}, callV C n f a m x = some r → callV C (n + 1) f a m x = some r
  enter : ∀ {g a m x v r}, enter C n g a m x v = some r → enter C (n + 1) g a m x v = some r
  leave : ∀ {F s p r}, leave C n F s p = some r → leave C (n + 1) F s p = some r

theorem bind_more {α β : Type} {a a' : Option α} {f f' : α → Option β} {r : β} (h : a.bind f = some r) (h1 : ∀ x, a = some x → a' = some x) (h2 : ∀ x, f x = some r → f' x = some r) : a'.bind f' = some r := by
  obtain ⟨x, hx, hr⟩ := Option.bind_eq_some_iff.1 h
  rw [h1 x hx]
  exact h2 x hr

theorem more : ∀ n, More C n
  | 0 => ⟨fun h => by simp [Pi.exec] at h, fun h => by simp [runSegs] at h, fun h => by simp [runOps] at h, fun h => by simp [runAny] at h, fun h => by simp [callQ] at h, fun h => by simp [callV] at h, fun h => by simp [Pi.enter] at h, fun h => by simp [Pi.leave] at h⟩
  | n + 1 => by
    have ih := more n
    refine ⟨?_, ?_, ?_, ?_, ?_, ?_, ?_, ?_⟩
    · intro c s r h
      cases c with
      | skip => simpa [Pi.exec] using h
      | reg segs => simp only [Pi.exec] at h ⊢; exact ih.segs h
      | seq a b =>
        simp only [Pi.exec] at h ⊢
        refine bind_more h (fun _ => ih.exec) fun x hx => ?_
        split at hx <;> first | exact ih.exec hx | exact hx
      | cond c a b =>
        simp only [Pi.exec] at h ⊢
        split at h
        · rename_i t ht; exact ih.exec h
        · cases h
      | block id c =>
        simp only [Pi.exec] at h ⊢
        exact bind_more h (fun _ => ih.exec) fun x hx => hx
      | loop c =>
        rw [Pi.exec.eq_def] at h ⊢
        simp only at h ⊢
        refine bind_more h (fun _ => ih.exec) fun x hx => ?_
        split at hx <;> first | exact ih.exec hx | exact hx
      | scope c => simp only [Pi.exec] at h ⊢; exact ih.exec h
      | exit id => simpa [Pi.exec] using h
      | ret => simpa [Pi.exec] using h
      | rf f ps a b =>
        simp only [Pi.exec] at h ⊢
        split at h
        · cases h
        · rename_i hir
          rw [if_neg hir]
          exact bind_more h (fun _ => ih.call) fun x hx => hx
    · intro c s r h
      cases c with
      | nil => simpa [runSegs] using h
      | cons p l =>
        cases p with
        | seq ops =>
          simp only [runSegs] at h ⊢
          refine bind_more h (fun _ => ih.ops) fun x hx => ?_
          split at hx <;> first | exact ih.segs hx | exact hx
        | any ops prs =>
          simp only [runSegs] at h ⊢
          refine bind_more h (fun _ => ih.any) fun x hx => ?_
          split at hx
          · rename_i hc; rw [if_pos hc]; exact ih.segs hx
          · cases hx
    · intro c s r h
      cases c with
      | nil => simpa [runOps] using h
      | cons p l =>
        simp only [runOps] at h ⊢
        cases hw : wanted p.g s.e with
        | none => rw [hw] at h; cases h
        | some c =>
          rw [hw] at h
          cases c with
          | false => exact ih.ops h
          | true =>
            simp only at h ⊢
            cases ho : p.o with
            | ca f args =>
              simp only [ho] at h ⊢
              refine bind_more h (fun _ => ih.call) fun x hx => ?_
              split at hx
              · rename_i v hv; try rw [hv]
                exact ih.ops hx
              · rename_i v hv; try rw [hv]
                exact hx
            | pa y => simp only [ho] at h ⊢; exact h
            | df f args =>
              simp only [ho] at h ⊢
              split at h
              · split at h
                · cases h
                · rename_i hc; rw [if_neg hc]; exact ih.ops h
              · cases h
            | rc =>
              simp only [ho] at h ⊢
              split at h
              · exact ih.ops h
              · cases h
            | _ =>
              simp only [ho] at h ⊢
              exact bind_more h (fun _ hx => hx) fun x hx => ih.ops hx
    · intro c s t r h
      cases c with
      | nil => simpa [runAny] using h
      | cons p l =>
        simp only [runAny] at h ⊢
        cases hw : wanted p.g s.e with
        | none => rw [hw] at h; cases h
        | some c =>
          rw [hw] at h
          cases c with
          | false => exact ih.any h
          | true =>
            simp only at h ⊢
            cases ho : p.o with
            | ca f args =>
              simp only [ho] at h ⊢
              exact bind_more h (fun _ => ih.quiet) fun x hx => ih.any hx
            | pa y => simp only [ho] at h; cases h
            | df f args => simp only [ho] at h; cases h
            | rc => simp only [ho] at h; cases h
            | _ =>
              simp only [ho] at h ⊢
              exact bind_more h (fun _ hx => hx) fun x hx => ih.any hx
    · intro f a m x r h
      unfold callQ at h
      rw [callQ.eq_def]
      simp only at h ⊢
      split at h
      · split at h
        · rename_i hp; first | (simp only [hp]; exact h) | exact h
        · rename_i hp
          try simp only [hp]
          split at h
          · rename_i ho
            rw [if_pos ho]
            refine bind_more h (fun _ hx => hx) fun z hz => ?_
            split at hz
            · rename_i hn
              rw [if_pos hn]
              split at hz
              · cases hz
              · rename_i hk
                rw [if_neg hk]
                exact bind_more hz (fun _ => ih.enter) fun y hy => hy
            · rename_i hn
              rw [if_neg hn]
              exact bind_more hz (fun _ => ih.enter) fun y hy => hy
          · rename_i ho
            rw [if_neg ho]
            exact bind_more h (fun _ hx => hx) fun z hz => bind_more hz (fun _ => ih.enter) fun y hy => hy
      · cases h
    · intro f a m x r h
      unfold callV at h
      rw [callV.eq_def]
      simp only at h ⊢
      split at h
      · split at h
        · rename_i hp; first | (simp only [hp]; exact h) | exact h
        · rename_i hp
          try simp only [hp]
          split at h
          · rename_i hf
            try simp only [hf]
            exact bind_more h (fun _ => ih.enter) fun y hy => hy
          · rename_i z hf
            try simp only [hf]
            exact bind_more h (fun _ => ih.enter) fun y hy => hy
      · split at h
        · rename_i q hq
          try simp only [hq]
          split at h
          · rename_i hst
            rw [if_pos hst]
            refine bind_more h (fun _ hx => hx) fun e he => bind_more he (fun _ => ih.exec) fun y hy => ?_
            split at hy
            · split at hy
              · rename_i q' hq'
                split at hy
                · cases hy
                · rename_i hst'
                  rename_i hnor
                  try simp only [hnor, hq']
                  rw [if_neg hst']
                  exact bind_more hy (fun _ => ih.exec) fun z hz => hz
              · cases hy
            · cases hy
          · cases h
        · cases h
      · cases h
    · intro g a m x v r h
      simp only [Pi.enter] at h ⊢
      refine bind_more h (fun _ hx => hx) fun F hF => bind_more hF (fun _ => ih.exec) fun y hy => ?_
      split at hy
      · rename_i v hv; (try simp only [hv]); exact ih.leave hy
      · rename_i hv; (try simp only [hv]); exact ih.leave hy
      · rename_i hv; (try simp only [hv]); exact ih.leave hy
      · cases hy
    · intro F s p r h
      unfold Pi.leave at h
      rw [Pi.leave.eq_def]
      simp only at h ⊢
      split at h
      · rename_i hd; first | (simp only [hd]; exact h) | exact h
      · rename_i l rr hd
        try simp only [hd]
        split at h
        · rename_i hm; (try simp only [hm]); exact ih.leave h
        · cases h
      · rename_i f args rr hd
        try simp only [hd]
        split at h
        · refine bind_more h (fun _ => ih.enter) fun y hy => ?_
          split at hy
          · cases hy
          · rename_i v hv; (try simp only [hv]); exact ih.leave hy
        · cases h

theorem ent_of {n g : Nat} {as : List V} {m : Sto} {x : Nat} {rv : Option V} {cr : CR} {m' : Sto} {x' : Nat} {rv' : Option V} (h : enter C n g as m x rv = some (cr, m', x', rv')) : Ent C g as m x rv cr m' x' rv' := by
  refine ⟨n, fun k hk => ?_⟩
  induction hk with
  | refl => exact h
  | step _ ih => exact (more _).enter ih

end
end Pi

/- Rules for calls, rounds and answers. -/
namespace Pi
open Go (IntKind TypeId FuncId Fn BinOp UnOp LoopState)

section
variable {C : Ctx}

theorem loop_use {c : PCode} {s : S} {P Q : X → S → Prop} (h : ∃ xx s', Runs C c s xx s' ∧ P xx s') (k : ∀ xx s', P xx s' → Q xx s') : ∃ xx s', Runs C c s xx s' ∧ Q xx s' :=
  let ⟨xx, s', h1, h2⟩ := h; ⟨xx, s', h1, k xx s' h2⟩

/-- What a function answers, called closed: its value, frozen. -/
def Ans (C : Ctx) (g : Nat) (vs : List V) (w : V) : Prop := ∃ v m' x' rv' ids, Ent C g vs (fun _ => none) 0 none (.ret v) m' x' rv' ∧ freeze m' v = some (w, ids)

theorem ans_ok {g : Nat} {F : PFun} {vs : List V} {w : V} (hF : C.fns g = some F)
    (h : wp C F.code ⟨envOf vs, fun _ => none, 0, [], none, none⟩ fun xx s' => (xx = .ret ∨ xx = .nor) ∧ ∃ v ids m' x' rv', Leav C F s' none (.ret v) m' x' rv' ∧ freeze m' v = some (w, ids)) : Ans C g vs w := by
  obtain ⟨xx, s', h1, h2, v, ids, m', x', rv', h3, h4⟩ := wp_ok h
  refine ⟨v, m', x', rv', ids, Ev.succ ((h1.and h3).mono fun k hk => ?_), h4⟩
  simp only [enter, hF, Option.bind_some, hk.1]
  rcases h2 with rfl | rfl <;> exact hk.2

/-- What is asked of a state that a function leaves: what was put off are marks; then its value. -/
def DoneD (rs : List RVar) (e : Env) : List D → Sto → (V → Sto → Prop) → Prop
  | [], m, K => ∃ v, result e m rs = some v ∧ K v m
  | .mark l :: r, m, K => m l = some .dfr ∧ DoneD rs e r (m.set l none) K
  | .call _ _ :: _, _, _ => False
def Done (rs : List RVar) (s : S) (K : V → Sto → Prop) : Prop := DoneD rs s.e s.ds s.m K
/-- Its value, frozen. -/
def Frz (w : V) (v : V) (m : Sto) : Prop := ∃ ids, freeze m v = some (w, ids)

theorem fin_leav {F : PFun} {e : Env} {x : Nat} {rv : Option V} {rd : Option Nat} {K : V → Sto → Prop} : ∀ {ds : List D} {m : Sto}, DoneD F.rs e ds m K → ∃ v m', Leav C F ⟨e, m, x, ds, rv, rd⟩ none (.ret v) m' x rv ∧ K v m'
  | [], m, ⟨v, h1, h2⟩ => ⟨v, m, leav_none rfl h1, h2⟩
  | .mark l :: r, m, ⟨h1, h2⟩ => by
    obtain ⟨v, m', h3, h4⟩ := fin_leav (x := x) (rv := rv) (rd := rd) h2
    exact ⟨v, m', leav_mark rfl h1 h3, h4⟩
  | .call _ _ :: _, _, h => h.elim

theorem ans_fin {g : Nat} {F : PFun} {vs : List V} {w : V} (hF : C.fns g = some F)
    (h : wp C F.code ⟨envOf vs, fun _ => none, 0, [], none, none⟩ fun xx s' => (xx = .ret ∨ xx = .nor) ∧ Done F.rs s' (Frz w)) : Ans C g vs w := by
  obtain ⟨xx, ⟨e', m', x', ds, rv, rd⟩, h1, h2, h3⟩ := wp_ok h
  obtain ⟨v, m2, h4, ids, h5⟩ := fin_leav (C := C) (x := x') (rv := rv) (rd := rd) h3
  refine ⟨v, m2, x', rv, ids, Ev.succ ((h1.and h4).mono fun k hk => ?_), h5⟩
  simp only [enter, hF, Option.bind_some, hk.1]
  rcases h2 with rfl | rfl <;> exact hk.2

/-- An open call. -/
theorem wpCall_op {g : Nat} {F : PFun} {first cap args : List V} {m : Sto} {x : Nat} {K : CR → Sto → Nat → Prop} (hp : C.prim g = none) (ho : C.opn g = true ∨ freezeL m (first ++ args ++ cap) = none) (hq : C.frz g = false) (hF : C.fns g = some F)
    (h : wp C F.code ⟨envOf (first ++ args ++ cap), m, x, [], none, none⟩ fun xx s' => (xx = .ret ∨ xx = .nor) ∧ Done F.rs s' fun v m' => K (.ret v) m' s'.x) : wpCall C (.fn (.func g) first cap) args m x K := by
  obtain ⟨xx, ⟨e', m', x', ds, rv, rd⟩, h1, h2, h3⟩ := wp_ok h
  obtain ⟨v, m2, h4, h5⟩ := fin_leav (C := C) (x := x') (rv := rv) (rd := rd) h3
  refine ⟨.ret v, m2, x', call_open (rv1 := rv) hp ho hq (Ev.succ ((h1.and h4).mono fun k hk => ?_)), h5⟩
  simp only [enter, hF, Option.bind_some, hk.1]
  rcases h2 with rfl | rfl <;> exact hk.2

theorem ans_run {n g : Nat} {vs : List V} {v : V} {r : CR × Sto × Nat × Option V} (h : enter C n g vs (fun _ => none) 0 none = some r) (hr : r.1 = .ret v) {w : V} {ids : List Nat} (hf : freeze r.2.1 v = some (w, ids)) : Ans C g vs w := by
  obtain ⟨cr, m', x', rv'⟩ := r
  simp only at hr hf
  subst hr
  exact ⟨v, m', x', rv', ids, ent_of h, hf⟩

/-- A function without symbols: it is run. -/
def told (o : Option (CR × Sto × Nat × Option V)) : Option V := match o with | some (.ret v, m, _) => (freeze m v).map Prod.fst | _ => none
theorem ans_told {n g : Nat} {vs : List V} {w : V} (h : told (enter C n g vs (fun _ => none) 0 none) = some w) : Ans C g vs w := by
  unfold told at h
  split at h
  · rename_i v m p he
    obtain ⟨⟨w', ids⟩, h1, rfl⟩ := Option.map_eq_some_iff.1 h
    exact ans_run he rfl h1
  · cases h

/-- A closed call. -/
theorem wpCall_closed {g : Nat} {first cap args : List V} {m : Sto} {x : Nat} {K : CR → Sto → Nat → Prop} (hp : C.prim g = none) (ho : C.opn g = false) (hq : C.frz g = false) {a : List V × List Nat} (hz : freezeL m (first ++ args ++ cap) = some a) {w : V} (h : Ans C g a.1 w) :
    wpCall C (.fn (.func g) first cap) args m x K = K (.ret w) (if w.scal then m else markRo m a.2) x := by
  obtain ⟨v, m', x', rv', ids, h1, h2⟩ := h
  exact wpCall_eq (call_closed hp ho hq hz h1 h2)
/-- What a function answers, called closed, all of it made anew. -/
def AnsF (C : Ctx) (g : Nat) (vs : List V) (u : Nat → V) (cs : Option (List V)) : Prop := ∃ v m' x' rv', Ent C g vs (fun _ => none) 0 none (.ret v) m' x' rv' ∧ ∀ x, (outV m' x v).map (fun p => (p.1, p.2.map Prod.snd)) = some (u x, cs)
def fM (m : Sto) (x : Nat) : Option (List V) → Sto
  | none => m
  | some cs => m.set x (some (.cells cs false))
def fX (x : Nat) : Option (List V) → Nat
  | none => x
  | some _ => x + 1
theorem wpCall_fresh {g : Nat} {first cap args : List V} {m : Sto} {x : Nat} {K : CR → Sto → Nat → Prop} (hp : C.prim g = none) (ho : C.opn g = false) (hq : C.frz g = true) {a : List V × List Nat} (hz : freezeL m (first ++ args ++ cap) = some a) {u : Nat → V} {cs : Option (List V)} (h : AnsF C g a.1 u cs) :
    wpCall C (.fn (.func g) first cap) args m x K = K (.ret (u x)) (fM m x cs) (fX x cs) := by
  obtain ⟨v, m', x', rv', h1, h2⟩ := h
  obtain ⟨p, h3, h4⟩ := Option.map_eq_some_iff.1 (h2 x)
  rw [wpCall_eq (call_fresh hp ho hq hz h1 h3)]
  simp only [Prod.mk.injEq] at h4
  obtain ⟨h4, rfl⟩ := h4
  rw [h4]
  obtain ⟨p1, p2⟩ := p
  cases p2 <;> rfl

theorem wpQuiet_closed {g : Nat} {first cap args : List V} {m : Sto} {x : Nat} {K : QR → Prop} (hp : C.prim g = none) (ho : C.opn g = false) {a : List V × List Nat} (hz : freezeL m (first ++ args ++ cap) = some a) {w : V} (h : Ans C g a.1 w)
    : wpQuiet C (.fn (.func g) first cap) args m x K = K ⟨w, mkWs w m a.2, a.2, x⟩ := by
  obtain ⟨v, m', x', rv', ids, h1, h2⟩ := h
  refine wpQuiet_eq (Ev.succ (h1.mono fun k hk => ?_))
  unfold callQ
  simp only [hp, ho, Bool.false_eq_true, if_false, hz, hk, Option.bind_some, h2]

/-- An open call. -/
theorem wpCall_open {g : Nat} {F : PFun} {first cap args : List V} {m : Sto} {x : Nat} {K : CR → Sto → Nat → Prop} (hp : C.prim g = none) (ho : C.opn g = true ∨ freezeL m (first ++ args ++ cap) = none) (hq : C.frz g = false) (hF : C.fns g = some F)
    (h : wp C F.code ⟨envOf (first ++ args ++ cap), m, x, [], none, none⟩ fun xx s' => (xx = .ret ∨ xx = .nor) ∧ ∃ v m' x' rv', Leav C F s' none (.ret v) m' x' rv' ∧ K (.ret v) m' x') : wpCall C (.fn (.func g) first cap) args m x K := by
  obtain ⟨xx, s', h1, h2, v, m', x', rv', h3, h4⟩ := wp_ok h
  refine ⟨.ret v, m', x', call_open (rv1 := rv') hp ho hq (Ev.succ ((h1.and h3).mono fun k hk => ?_)), h4⟩
  simp only [enter, hF, Option.bind_some, hk.1]
  rcases h2 with rfl | rfl <;> exact hk.2

/-- A value handed to a loop over a function. -/
theorem wpCall_yield {ll : Nat} {args : List V} {m : Sto} {x : Nat} {K : CR → Sto → Nat → Prop} {q : LoopRec} (hm : m ll = some (.loop q)) (hst : q.st = .ready) {e : Env} (he : setAll q.e q.ps args = some e)
    (h : wp C q.asg ⟨e, m, x, [], none, some ll⟩ fun xx s1 => xx = .nor ∧ ∃ q', s1.m ll = some (.loop q') ∧ q'.st = .ready ∧
      wp C q.body { s1 with m := s1.m.set ll (some (.loop { q' with st := .busy })) } fun z s2 => s2.ds = [] ∧ match z with
        | .pan v => K (.pan v) s2.m s2.x
        | .nor => ∃ q'', s2.m ll = some (.loop q'') ∧ K (.ret (.b true)) (s2.m.set ll (some (.loop { q'' with st := .ready, pend := none }))) s2.x
        | y => ∃ q'', s2.m ll = some (.loop q'') ∧ K (.ret (.b false)) (s2.m.set ll (some (.loop { q'' with st := .done, pend := some y }))) s2.x) :
    wpCall C (.fn (.yield ll) [] []) args m x K := by
  obtain ⟨xx, s1, h1, rfl, q', h2, h3, h4⟩ := wp_ok h
  obtain ⟨z, s2, h5, h6, h7⟩ := wp_ok h4
  have hds : (!s2.ds.isEmpty) = false := by rw [h6]; rfl
  have run : ∀ {cr m' x'}, (∀ k, exec C k q.body { s1 with m := s1.m.set ll (some (.loop { q' with st := .busy })) } = some (z, s2) → (match z, s2.m ll with
      | .pan v, _ => some (.pan v, s2.m, s2.x)
      | .nor, some (.loop q'') => some (.ret (.b true), s2.m.set ll (some (.loop { q'' with st := .ready, pend := none })), s2.x)
      | y, some (.loop q'') => some (.ret (.b false), s2.m.set ll (some (.loop { q'' with st := .done, pend := some y })), s2.x)
      | _, _ => none) = some (cr, m', x')) → Call C (.fn (.yield ll) [] []) args m x cr m' x' := by
    intro cr m' x' hh
    refine Ev.succ ((h1.and h5).mono fun k hk => ?_)
    rw [callV.eq_def]
    simp only [hm, hst, if_true, he, Option.bind_some, hk.1, h2]
    rw [if_neg (by simp [h3])]
    simp only [hk.2, Option.bind_some, hds, Bool.false_eq_true, if_false]
    exact hh k hk.2
  cases z with
  | pan v => exact ⟨_, _, _, run (fun k hk => rfl), h7⟩
  | nor => obtain ⟨q'', h8, h9⟩ := h7; exact ⟨_, _, _, run (fun k hk => by simp only [h8]), h9⟩
  | ret => obtain ⟨q'', h8, h9⟩ := h7; exact ⟨_, _, _, run (fun k hk => by simp only [h8]), h9⟩
  | exit id => obtain ⟨q'', h8, h9⟩ := h7; exact ⟨_, _, _, run (fun k hk => by simp only [h8]), h9⟩

/-- A loop over a function. -/
theorem rf_ok {f : Opd} {ps : List Nat} {a b : PCode} {s : S} {Q : X → S → Prop} (hrd : s.rd = none)
    (h : wpCall C (f.ev s.e) [.fn (.yield (s.x + 1)) [] []] ((s.m.set s.x (some .dfr)).set (s.x + 1) (some (.loop ⟨s.e, ps, a, b, .ready, none⟩))) (s.x + 2) fun cr m' x' => match cr with
      | .pan v => Q (.pan v) { s with m := m', x := x', ds := .mark s.x :: s.ds }
      | .ret _ => ∃ q, m' (s.x + 1) = some (.loop q) ∧ q.st ≠ .busy ∧ Q (match q.pend with | none => .nor | some y => y) { s with m := m'.set (s.x + 1) none, x := x', ds := .mark s.x :: s.ds }) :
    ∃ xx s', Runs C (.rf f ps a b) s xx s' ∧ Q xx s' := by
  obtain ⟨cr, m', x', h1, h2⟩ := h
  have hir : inRound s = true := by simp [inRound, hrd]
  cases cr with
  | pan v =>
    refine ⟨_, _, Ev.succ (h1.mono fun k hk => ?_), h2⟩
    rw [exec.eq_def]
    simp only [hrd, Option.isSome_none, Bool.false_eq_true, if_false, hir, Bool.not_true]
    rw [hk]
    rfl
  | ret v =>
    obtain ⟨q, h3, h4, h5⟩ := h2
    refine ⟨_, _, Ev.succ (h1.mono fun k hk => ?_), h5⟩
    rw [exec.eq_def]
    simp only [hrd, Option.isSome_none, Bool.false_eq_true, if_false, hir, Bool.not_true]
    rw [hk]
    simp only [Option.bind_some, h3, h4, if_false]
    rfl

end
end Pi

/- From an answer to the machine's call. -/
namespace Pi
open Go (Value World Program)

theorem frz_true {m : Sto} {v : V} {r : List Nat} {b : Bool} (h : freeze m v = some (.b b, r)) : v = .b b := by
  unfold freeze at h
  cases v <;> simp [frzW, Option.bind_eq_some_iff] at h
  case b x => rw [h.1]
  case fn f a c => split at h <;> simp [Option.bind_eq_some_iff] at h

theorem law_of_ans {P : Program} {C : Ctx} (lk : Lnk P C) {g : Nat} {vs : List V} (h : Ans C g vs (.b true)) {w : World} {args : Array Value} {ro : Ro}
    (hro : ∀ b o, ro b = some o → w.heap[b]? = some o) (ha : PR ro vs noRho args.toList) (hl : vs.length = args.size) :
    Go.Calls P g args w (fun e w' => e = .returned (.bool true) ∧ Go.RowKit.Below w.heap.size w w') := by
  obtain ⟨v, m', x', rv', ids, ⟨n, h1⟩, h2⟩ := h
  have := frz_true h2
  subst this
  exact law_of_enter lk (h1 n (Nat.le_refl _)) hro ha hl
end Pi

/- From what is handed to a law to pure values, and back. -/
namespace Pi
open Go (IntKind TypeId Value Addr World Program DataW MemPlace Lit maxLen)

mutual
/-- Cells of a type: numbers, truths, texts, and what is made of them. -/
def Tv (P : Program) : Nat → TypeId → List V → Prop
  | 0, _, _ => False
  | n + 1, t, vs => match P.underlying t with
    | some .bool => ∃ b, vs = [.b b]
    | some (.int k) => ∃ x, vs = [.i k x] ∧ (Lit.int k x).wf = true
    | some .string => ∃ s, vs = [.s s] ∧ s.size ≤ 140737488351232
    | some (.slice e) => ∃ els : List (List V), vs = [.sl els.flatten els.length] ∧ els.length ≤ 140737488351232 ∧ ∀ p ∈ els, p.length = P.cellsOf e ∧ Tv P n e p
    | some (.struct fs) => TvF P n (fs.toList.map (·.type)) vs
    | _ => False
def TvF (P : Program) : Nat → List TypeId → List V → Prop
  | n, [], vs => vs = []
  | n, t :: ts, vs => ∃ p r, vs = p ++ r ∧ p.length = P.cellsOf t ∧ Tv P n t p ∧ TvF P n ts r
end

theorem TvF_nil {P : Program} {n : Nat} {vs : List V} : TvF P n [] vs = (vs = []) := by simp [TvF]
theorem TvF_cons {P : Program} {n : Nat} {t : TypeId} {ts : List TypeId} {vs : List V} : TvF P n (t :: ts) vs = ∃ p r, vs = p ++ r ∧ p.length = P.cellsOf t ∧ Tv P n t p ∧ TvF P n ts r := by simp [TvF]

/-- Types that are so made: a list of them that holds all that they are made of. -/
def fit (P : Program) : Nat → List Go.Field → Option Nat
  | o, [] => some o
  | o, f :: fs => if f.offset = o then fit P (o + P.cellsOf f.type) fs else none
def okT (P : Program) (l : List TypeId) : Bool := l.all fun t => match P.underlying t with
  | some .bool | some (.int _) | some .string => true
  | some (.slice e) => l.contains e && decide (0 < P.cellsOf e) && decide (0 < P.bytesOf e)
  | some (.struct fs) => (fs.toList.all fun f => l.contains f.type) && (fit P 0 fs.toList == some (P.cellsOf t))
  | _ => false

theorem cells_at {w : World} {base : Nat} {a : Addr} {n : Nat} {cs : List Value} (h : w.cells? base a n = some cs) (hn : 0 < n) :
    ∃ arr e f, w.heap[a.block]? = some (.cells arr e f) ∧ a.spot = none ∧ cs = (arr.toList.drop a.off).take n ∧ cs.length = n := by
  unfold World.cells? at h
  split at h
  · have hl := Go.mapM_some_length h
    simp at hl
    have hg := Go.mapM_some_get h
    have h0 := hg 0 0 (by simp [hn])
    have hc0 : cs[0]? = some cs[0] := List.getElem?_eq_getElem (by omega)
    rw [hc0] at h0
    simp only [Addr.add, if_true] at h0
    unfold World.cell? at h0
    split at h0
    · rename_i c e f hb
      split at h0
      · cases h0
      · rename_i hs
        have hs' : a.spot = none := by cases ha : a.spot <;> simp_all
        refine ⟨c, e, f, hb, hs', ?_, hl⟩
        apply List.ext_getElem?
        intro i
        by_cases hi : i < n
        · have h1 := hg i i (by simp [hi])
          have : w.cell? (a.add i) = c[a.off + i]? := by
            have e1 : (a.add i).block = a.block := by unfold Addr.add; split <;> rfl
            have e2 : (a.add i).off = a.off + i := by
              unfold Addr.add
              split
              · rename_i hi0; rw [hi0]; rfl
              · rfl
            have e3 : (a.add i).spot = none := by
              unfold Addr.add
              split
              · exact hs'
              · rfl
            unfold World.cell?
            rw [e1, hb]
            simp [e2, e3]
          rw [this] at h1
          rw [← h1, List.getElem?_take, if_pos hi, List.getElem?_drop]
          simp
        · rw [List.getElem?_eq_none (by omega), List.getElem?_take, if_neg hi]
    · cases h0
  · cases h

theorem PR.wide {ro : Ro} {h : Rho} {cs : List V} {l k : List Value} (r : PR ro cs h l) : PR ro cs h (l ++ k) := by
  have := r.len
  refine .mk (by simp; omega) fun i c v hc hv => ?_
  have hi : i < cs.length := by
    rcases Nat.lt_or_ge i cs.length with h | h
    · exact h
    · rw [List.getElem?_eq_none h] at hc; cases hc
  rw [List.getElem?_append_left (by omega)] at hv
  exact r.at hc hv

section
variable {H : Type} {enc : TypeId × Value → H} {P : Program} {w : World} {base : Nat} {spare : Nat → Bool} {held : Bool} {l : List TypeId}

def heapRo (w : World) : Ro := fun b => w.heap[b]?

theorem okT_at (ok : okT P l = true) {t : TypeId} (ht : t ∈ l) : (match P.underlying t with
  | some .bool | some (.int _) | some .string => true
  | some (.slice e) => l.contains e && decide (0 < P.cellsOf e) && decide (0 < P.bytesOf e)
  | some (.struct fs) => (fs.toList.all fun f => l.contains f.type) && (fit P 0 fs.toList == some (P.cellsOf t))
  | _ => false) = true := by
  unfold okT at ok
  exact List.all_eq_true.1 ok t ht

theorem wt_all {e : TypeId} : ∀ {ds : List (DataW H)} {i : Nat} {d : DataW H}, ds[i]? = some d → ∀ x ∈ d.weights P e, x ∈ DataW.weightsAll P e ds
  | [], i, d, h, x, hx => by simp at h
  | c :: ds, 0, d, h, x, hx => by
    simp only [List.getElem?_cons_zero, Option.some.injEq] at h
    subst h
    simp [DataW.weightsAll, hx]
  | c :: ds, i + 1, d, h, x, hx => by
    simp only [DataW.weightsAll, List.mem_append]
    exact .inr (wt_all (by simpa using h) x hx)
theorem wt_each : ∀ {ts : List TypeId} {ds : List (DataW H)} {i : Nat} {t : TypeId} {d : DataW H}, ts[i]? = some t → ds[i]? = some d → ∀ x ∈ d.weights P t, x ∈ DataW.weightsEach P ts ds
  | [], _, i, t, d, h, _, x, hx => by simp at h
  | _ :: _, [], i, t, d, _, h, x, hx => by simp at h
  | t' :: ts, c :: ds, 0, t, d, h1, h, x, hx => by
    simp only [List.getElem?_cons_zero, Option.some.injEq] at h h1
    subst h h1
    simp [DataW.weightsEach, hx]
  | t' :: ts, c :: ds, i + 1, t, d, h1, h, x, hx => by
    simp only [DataW.weightsEach, List.mem_append]
    exact .inr (wt_each (by simpa using h1) (by simpa using h) x hx)
/-- No text and no list is longer than memory reaches. -/
def Wt (P : Program) (t : TypeId) (d : DataW H) : Prop := ∀ x ∈ d.weights P t, x ≤ Go.reachBytes
theorem tv_fields {n : Nat} {cs : List Value} (ih : ∀ t ∈ l, ∀ cs x, DataW.trod enc P w base spare held n t cs = some x → Wt P t x.1 → ∃ vs, vs.length = cs.length ∧ PR (heapRo w) vs noRho cs ∧ OneL cs ∧ Tv P n t vs) :
    ∀ (fs : List Go.Field) (o e : Nat), fit P o fs = some e → (∀ f ∈ fs, f.type ∈ l) → e = cs.length → (∀ f ∈ fs, ∃ x, DataW.trod enc P w base spare held n f.type ((cs.drop f.offset).take (P.cellsOf f.type)) = some x ∧ Wt P f.type x.1) →
      ∃ vs, vs.length = (cs.drop o).length ∧ PR (heapRo w) vs noRho (cs.drop o) ∧ OneL (cs.drop o) ∧ TvF P n (fs.map (·.type)) vs
  | [], o, e, hf, hl, he, ht => by
    simp only [fit, Option.some.injEq] at hf
    have : cs.drop o = [] := List.drop_of_length_le (by omega)
    rw [this]
    refine ⟨[], rfl, by simp [PR], by intro v hv; simp at hv, ?_⟩
    rw [List.map_nil, TvF_nil]
  | f :: fs, o, e, hf, hl, he, ht => by
    simp only [fit] at hf
    split at hf
    · rename_i ho
      obtain ⟨x, hx, hxw⟩ := ht f (by simp)
      obtain ⟨p, p1, p2, p3, p4⟩ := ih f.type (hl f (by simp)) _ x hx hxw
      obtain ⟨r, r1, r2, r3, r4⟩ := tv_fields ih fs _ e hf (fun g hg => hl g (by simp [hg])) he (fun g hg => ht g (by simp [hg]))
      have mono : ∀ (fs : List Go.Field) (o e : Nat), fit P o fs = some e → o ≤ e := by
        intro fs
        induction fs with
        | nil => intro o e h; simp only [fit, Option.some.injEq] at h; omega
        | cons g gs ihg =>
          intro o e h
          simp only [fit] at h
          split at h
          · have := ihg _ _ h; omega
          · cases h
      have hle := mono _ _ _ hf
      have hpl : p.length = P.cellsOf f.type := by
        rw [p1, List.length_take, List.length_drop]
        omega
      have hsplit : cs.drop o = (cs.drop o).take (P.cellsOf f.type) ++ cs.drop (o + P.cellsOf f.type) := by
        rw [← List.drop_drop, List.take_append_drop]
      rw [ho] at p1 p2 p3
      refine ⟨p ++ r, ?_, ?_, ?_, by rw [List.map_cons, TvF_cons]; exact ⟨p, r, rfl, hpl, p4, r4⟩⟩
      · rw [List.length_append, p1, r1, ← List.length_append, ← hsplit]
      · rw [hsplit]
        exact p2.append p1 r2
      · rw [hsplit]
        intro v hv
        exact (List.mem_append.1 hv).elim (p3 v) (r3 v)
    · cases hf

/-- What is read as data is made of pure cells. -/
theorem tv_open (ok : okT P l = true) : ∀ (n : Nat), ∀ t ∈ l, ∀ cs x, DataW.trod enc P w base spare held n t cs = some x → Wt P t x.1 → ∃ vs, vs.length = cs.length ∧ PR (heapRo w) vs noRho cs ∧ OneL cs ∧ Tv P n t vs := by
  intro n
  induction n with
  | zero => intro t ht cs x h; simp [DataW.trod] at h
  | succ n ih =>
    intro t ht cs x h hwt
    have hk := okT_at ok ht
    split at hk
    · rename_i hu
      unfold DataW.trod at h
      rw [hu] at h
      split at h <;> simp_all
      rename_i b
      exact ⟨[.b b], by simp, by simp [PR, VR], by intro v hv; simp at hv; subst hv; rfl, by simp [Tv, hu]⟩
    · rename_i k hu
      obtain ⟨m, rfl, rfl, hw⟩ := DataW.trod_int hu h
      refine ⟨[.i k m], by simp, by simp [PR, VR], by intro v hv; simp at hv; subst hv; rfl, ?_⟩
      simp only [Tv, hu]
      exact ⟨m, rfl, hw⟩
    · rename_i hu
      unfold DataW.trod at h
      rw [hu] at h
      split at h <;> simp_all
      rename_i s
      obtain ⟨h1, rfl⟩ := h
      have hsz := hwt s.data.toList.length (by simp [DataW.weights])
      have e : s.data.toList.length = s.size := by cases s; simp [ByteArray.size]
      rw [e] at hsz
      have e2 : Go.reachBytes ≤ 140737488351232 := by decide
      exact ⟨[.s s], by simp, by simp [PR, VR], by intro v hv; simp at hv; subst hv; rfl, by simp only [Tv, hu]; exact ⟨s, rfl, by omega⟩⟩
    · rename_i e hu
      simp only [Bool.and_eq_true, List.contains_iff_mem, decide_eq_true_eq] at hk
      obtain ⟨⟨hk1, hk2⟩, hk3⟩ := hk
      have hk : e ∈ l ∧ 0 < P.cellsOf e := ⟨hk1, hk2⟩
      rcases DataW.trod_slice hu h with ⟨rfl, _⟩ | ⟨a, len, cap, elems, rest, m, hm, rfl, hxe, hb, hl, hmx, hel, hat, _, _⟩
      · refine ⟨[.sl [] 0], by simp, ?_, by intro v hv; simp at hv; subst hv; rfl, ?_⟩
        · simp [PR, VR]
        · simp only [Tv, hu]
          exact ⟨[], by simp, by simp, by simp⟩
      · obtain rfl : n = m := by omega
        by_cases h0 : len = 0
        · subst h0
          refine ⟨[.sl [] 0], by simp, ?_, by intro v hv; simp at hv; subst hv; rfl, ?_⟩
          · simp [PR, VR]
          · simp only [Tv, hu]
            exact ⟨[], by simp, by simp, by simp⟩
        · subst hxe
          have hwE : ∀ x, x ∈ (elems.length + rest.length) * P.bytesOf e :: (DataW.weightsAll P e (elems.map (·.1)) ++ DataW.weightsAll P e (rest.map (·.1))) → x ≤ Go.reachBytes := by
            intro x hx
            refine hwt x ?_
            simp only [DataW.weights, hu, List.length_map]
            exact hx
          have hlw : len ≤ 140737488351232 := by
            have h1 := hwE ((elems.length + rest.length) * P.bytesOf e) (by simp)
            have e2 : Go.reachBytes ≤ 140737488351232 := by decide
            have h3 : (elems.length + rest.length) * 1 ≤ (elems.length + rest.length) * P.bytesOf e := Nat.mul_le_mul_left _ hk3
            omega
          have each : ∀ i, i < len → ∃ cs y, w.cells? base (a.add (i * P.cellsOf e)) (P.cellsOf e) = some cs ∧ DataW.trod enc P w base spare held n e cs = some y ∧ Wt P e y.1 := by
            intro i hi
            have := hat i hi
            rw [List.getElem?_eq_getElem (by omega)] at this
            obtain ⟨cs, h1, h2⟩ := Option.bind_eq_some_iff.1 this
            refine ⟨cs, _, h1, h2, fun x hx => hwE x ?_⟩
            simp only [List.mem_cons, List.mem_append]
            exact .inr (.inl (wt_all (i := i) (by rw [List.getElem?_map, List.getElem?_eq_getElem (by omega)]; rfl) x hx))
          obtain ⟨cs0, y0, q1, q2, _⟩ := each 0 (by omega)
          simp only [Nat.zero_mul, Addr.add, if_true] at q1
          obtain ⟨arr, et, fr, hbl, hsp, _, _⟩ := cells_at q1 hk.2
          have run : ∀ c, c ≤ len → ∃ els : List (List V), els.length = c ∧ (∀ p ∈ els, p.length = P.cellsOf e ∧ Tv P n e p) ∧ els.flatten.length = ((arr.toList.drop a.off).take (c * P.cellsOf e)).length ∧
              PR (heapRo w) els.flatten noRho ((arr.toList.drop a.off).take (c * P.cellsOf e)) ∧ OneL ((arr.toList.drop a.off).take (c * P.cellsOf e)) := by
            intro c
            induction c with
            | zero => intro _; exact ⟨[], rfl, by simp, by simp, by simp [PR], by intro v hv; simp at hv⟩
            | succ c ihc =>
              intro hc
              obtain ⟨els, e1, e2, e3, e4, e5⟩ := ihc (by omega)
              obtain ⟨csc, y, r1, r2, r2w⟩ := each c (by omega)
              obtain ⟨arr', et', fr', r3, r4, r5, r6⟩ := cells_at r1 hk.2
              have hblk : (a.add (c * P.cellsOf e)).block = a.block := by unfold Addr.add; split <;> rfl
              have hoff : (a.add (c * P.cellsOf e)).off = a.off + c * P.cellsOf e := by
                unfold Addr.add
                split
                · rename_i hz; rw [hz]; rfl
                · rfl
              rw [hblk, hbl] at r3
              cases r3
              rw [hoff] at r5
              obtain ⟨p, p1, p2, p3, p4⟩ := ih e hk.1 csc y r2 r2w
              have hsplit : (arr.toList.drop a.off).take ((c + 1) * P.cellsOf e) = (arr.toList.drop a.off).take (c * P.cellsOf e) ++ csc := by
                rw [r5, Nat.succ_mul, List.take_add, List.drop_drop]
              refine ⟨els ++ [p], by simp [e1], ?_, ?_, ?_, ?_⟩
              · intro q hq
                rcases List.mem_append.1 hq with hq | hq
                · exact e2 q hq
                · simp at hq; subst hq; exact ⟨by rw [p1, r6], p4⟩
              · rw [hsplit]; simp [e3, p1]
              · rw [hsplit, List.flatten_append, List.flatten_singleton]
                exact e4.append e3 p2
              · rw [hsplit]
                intro v hv
                exact (List.mem_append.1 hv).elim (e5 v) (p3 v)
          obtain ⟨els, e1, e2, e3, e4, e5⟩ := run len (Nat.le_refl _)
          have hlen : els.flatten.length = len * P.cellsOf e := by
            have : ∀ ll : List (List V), (∀ p ∈ ll, p.length = P.cellsOf e ∧ Tv P n e p) → ll.flatten.length = ll.length * P.cellsOf e := by
              intro ll
              induction ll with
              | nil => intro _; simp
              | cons p ll ihl =>
                intro hp
                rw [List.flatten_cons, List.length_append, ihl (fun q hq => hp q (by simp [hq])), (hp p (by simp)).1, List.length_cons, Nat.succ_mul]
                omega
            rw [this els e2, e1]
          refine ⟨[.sl els.flatten els.length], by simp, ?_, by intro v hv; simp at hv; subst hv; rfl, ?_⟩
          · simp only [PR, VR]
            refine ⟨_, _, rfl, ⟨some a, cap, by rw [e1], by omega, .inr ⟨a.block, a.off, arr, et, fr, ?_, hbl, ?_, ?_⟩⟩, trivial⟩
            · cases a; simp at hsp; subst hsp; rfl
            · rw [hlen]; exact e5
            · have := e4.wide (k := (arr.toList.drop a.off).drop (len * P.cellsOf e))
              rw [List.take_append_drop] at this
              exact this
          · simp only [Tv, hu]
            exact ⟨els, rfl, by omega, e2⟩
    · rename_i fs hu
      simp only [Bool.and_eq_true, List.all_eq_true, List.contains_iff_mem, beq_iff_eq] at hk
      obtain ⟨xs, m, hm, rfl, hcl, hxl, hat⟩ := DataW.trod_struct hu h
      obtain rfl : n = m := by omega
      obtain ⟨vs, v1, v2, v3, v4⟩ := tv_fields (cs := cs) ih fs.toList 0 _ hk.2 hk.1 hcl.symm (fun f hf => by
        obtain ⟨i, hi, rfl⟩ := List.getElem_of_mem hf
        have := hat i fs.toList[i] (by simp at hi; simp [hi])
        rw [List.getElem?_eq_getElem (by simp at hi; omega)] at this
        refine ⟨_, this, fun x hx => hwt x ?_⟩
        simp only [DataW.weights, hu]
        exact wt_each (i := i) (by rw [List.getElem?_map, List.getElem?_eq_getElem hi]; rfl) (by rw [List.getElem?_map, List.getElem?_eq_getElem (by simp at hi; omega)]; rfl) x hx)
      rw [List.drop_zero] at v1 v2 v3
      refine ⟨vs, v1, v2, v3, ?_⟩
      simp only [Tv, hu]
      exact v4
    · cases hk

/-- An argument: a struct's cells, or a value alone. -/
def TvA (P : Program) (n : Nat) (t : TypeId) (v : V) : Prop := match P.underlying t with
  | some (.struct _) => ∃ vs, v = .ag vs ∧ Tv P n t vs
  | _ => Tv P n t [v]
def TvAll (P : Program) : List TypeId → List V → Prop
  | [], [] => True
  | t :: ts, v :: vs => (∃ n, TvA P n t v) ∧ TvAll P ts vs
  | _, _ => False

theorem arg_open (ok : okT P l = true) {t : TypeId} (ht : t ∈ l) {v : Value} {d : DataW H} {p : List MemPlace} {W : World} {b : Nat} (hv : Value.okWide P W .any b t v) (h : DataW.Trod enc P w base spare held t v d p) (hwt : Wt P t d) :
    ∃ x, VR (heapRo w) x noRho v ∧ ∃ n, TvA P n t x := by
  obtain ⟨n, h⟩ := h
  obtain ⟨vs, v1, v2, v3, v4⟩ := tv_open ok n t ht _ _ h hwt
  cases hu : P.underlying t with
  | none => cases n <;> simp [Tv, hu] at v4
  | some s =>
    unfold Value.okWide at hv
    rw [hu] at hv
    cases s with
    | struct fs =>
      obtain ⟨cs, rfl, h1, _⟩ := hv
      refine ⟨.ag vs, ?_, n, ?_⟩
      · simp only [VR]
        exact ⟨cs, rfl, by rw [v1]; simp [Value.cells], by simpa [Value.cells] using v3, by simpa [Value.cells] using v2⟩
      · unfold TvA
        rw [hu]
        exact ⟨vs, rfl, v4⟩
    | _ =>
      have one : ∀ u, vs = [u] → ∃ x, VR (heapRo w) x noRho v ∧ ∃ n, TvA P n t x := by
        rintro u rfl
        refine ⟨u, ?_, n, ?_⟩
        · have hc : v.cells.toList = [v] := by
            have hl : v.cells.toList.length = 1 := by rw [← v1]; rfl
            cases v with
            | agg cs =>
              have := v2
              simp only [Value.cells] at hl v2 v3
              cases n with
              | zero => simp [Tv] at v4
              | succ n => first | (simp [Go.Cell.okWide, Go.Cell.ok, hu] at hv; done) | (simp [Tv, hu] at v4; done)
            | _ => rfl
          rw [hc] at v2
          obtain ⟨_, _, q1, q2, _⟩ := v2
          cases q1
          exact q2
        · unfold TvA
          rw [hu]
          exact v4
      cases n with
      | zero => simp [Tv] at v4
      | succ n =>
        first
          | (simp [Tv, hu] at v4; done)
          | simp only [Tv, hu] at v4
        first
          | done
          | (obtain ⟨b, hb⟩ := v4; exact one _ hb)
          | (obtain ⟨b, hb, _⟩ := v4; exact one _ hb)
          | exact v4.elim

theorem row_args (ok : okT P l = true) {W : World} {b : Nat} : ∀ {ts : List TypeId} {vs : List Value} {ds : List (DataW H)} {p : List MemPlace}, DataW.TrodAll enc P w base spare held ts vs ds p → (∀ x ∈ DataW.weightsEach P ts ds, x ≤ Go.reachBytes) → (∀ t ∈ ts, t ∈ l) →
    (∀ (j : Nat) t v, ts[j]? = some t → vs[j]? = some v → Value.okWide P W .any b t v) → ∃ Vs, PR (heapRo w) Vs noRho vs ∧ Vs.length = vs.length ∧ TvAll P ts Vs
  | [], [], [], p, h, hw, hl, hv => ⟨[], by simp [PR], rfl, trivial⟩
  | t :: ts, v :: vs, d :: ds, p, h, hw, hl, hv => by
    obtain ⟨p1, p2, h1, h2, _⟩ := h
    obtain ⟨x, x1, x2⟩ := arg_open ok (hl t (by simp)) (hv 0 t v rfl rfl) h1 (fun x hx => hw x (by simp [DataW.weightsEach, hx]))
    obtain ⟨Vs, q1, q2, q3⟩ := row_args ok h2 (fun x hx => hw x (by simp [DataW.weightsEach, hx])) (fun t' ht => hl t' (by simp [ht])) (fun j t' v' ht hv' => hv (j + 1) t' v' (by simpa using ht) (by simpa using hv'))
    exact ⟨x :: Vs, by simp only [PR]; exact ⟨v, vs, rfl, x1, q1⟩, by simp [q2], x2, q3⟩
  | [], _ :: _, _, _, h, _, _, _ => h.elim
  | [], [], _ :: _, _, h, _, _, _ => h.elim
  | _ :: _, [], _, _, h, _, _, _ => h.elim
  | _ :: _, _ :: _, [], _, h, _, _, _ => h.elim

theorem row_len : ∀ {ts : List TypeId} {vs : List Value} {ds : List (DataW H)} {p : List MemPlace}, DataW.TrodAll enc P w base spare held ts vs ds p → vs.length = ts.length ∧ ds.length = ts.length
  | [], [], [], p, h => ⟨rfl, rfl⟩
  | t :: ts, v :: vs, d :: ds, p, h => by
    obtain ⟨p1, p2, h1, h2, _⟩ := h
    have := row_len h2
    simp [this]
  | [], _ :: _, _, _, h => h.elim
  | [], [], _ :: _, _, h => h.elim
  | _ :: _, [], _, _, h => h.elim
  | _ :: _, _ :: _, [], _, h => h.elim

theorem wt_mem : ∀ {ts : List TypeId} {ds : List (DataW H)} {us : List TypeId} {gs : List (DataW H)}, ts.length = ds.length → ∀ x ∈ DataW.weightsEach P ts ds, x ∈ DataW.weightsEach P (ts ++ us) (ds ++ gs)
  | [], [], us, gs, _, x, h => by simp [DataW.weightsEach] at h
  | t :: ts, d :: ds, us, gs, hl, x, h => by
    simp only [DataW.weightsEach, List.cons_append, List.mem_append] at h ⊢
    rcases h with h | h
    · exact .inl h
    · exact .inr (wt_mem (by simpa using hl) x h)
  | [], _ :: _, _, _, hl, _, _ => by simp at hl
  | _ :: _, [], _, _, hl, _, _ => by simp at hl
/-- A text that is handed in is no longer than memory reaches. -/
theorem row_str : ∀ {ts : List TypeId} {vs : List Value} {ds : List (DataW H)} {p : List MemPlace}, DataW.TrodAll enc P w base spare held ts vs ds p → (∀ x ∈ DataW.weightsEach P ts ds, x ≤ Go.reachBytes) →
    ∀ (j : Nat) (s : ByteArray), vs[j]? = some (.string s) → (∃ t, ts[j]? = some t ∧ P.underlying t = some .string) → s.size ≤ 140737488351232
  | [], [], [], p, h, hw, j, s, hj, _ => by simp at hj
  | t :: ts, v :: vs, d :: ds, p, h, hw, j, s, hj, hu => by
    obtain ⟨p1, p2, h1, h2, _⟩ := h
    simp only [DataW.weightsEach, List.mem_append] at hw
    cases j with
    | succ j => exact row_str h2 (fun x hx => hw x (.inr hx)) j s (by simpa using hj) (by simpa using hu)
    | zero =>
      simp only [List.getElem?_cons_zero, Option.some.injEq] at hj
      subst hj
      obtain ⟨n, h1⟩ := h1
      cases n with
      | zero => simp [DataW.trod] at h1
      | succ n =>
        have hc : (Value.string s).cells.toList = [.string s] := rfl
        rw [hc] at h1
        unfold DataW.trod at h1
        have hd : d = .lit (.string s.data.toList) := by
          obtain ⟨t', ht', hu⟩ := hu
          simp only [List.getElem?_cons_zero, Option.some.injEq] at ht'
          subst ht'
          rw [hu] at h1
          simp at h1
          exact h1.2.1.symm
        subst hd
        have := hw s.data.toList.length (.inl (by simp [DataW.weights]))
        have e : s.data.toList.length = s.size := by cases s; simp [ByteArray.size]
        rw [e] at this
        have e2 : Go.reachBytes ≤ 140737488351232 := by decide
        omega
  | [], _ :: _, _, _, h, _, _, _, _, _ => h.elim
  | [], [], _ :: _, _, h, _, _, _, _, _ => h.elim
  | _ :: _, [], _, _, h, _, _, _, _, _ => h.elim
  | _ :: _, _ :: _, [], _, h, _, _, _, _, _ => h.elim

theorem row_back {W W' : World} (hlo : Go.laidOutB P = true) (hb : Go.RowKit.Below W.heap.size W W') : ∀ {ts : List TypeId} {vs : List Value} {ds : List (DataW H)} {p : List MemPlace}, DataW.TrodAll enc P W 0 (fun _ => true) true ts vs ds p →
    (∀ t ∈ ts, P.readableRec t = true ∧ t < P.types.size) → (∀ x ∈ p, x.block < W.heap.size) → DataW.TrodAll enc P W' 0 (fun b => decide (b < W.heap.size)) true ts vs ds p
  | [], [], [], p, h, _, _ => h
  | t :: ts, v :: vs, d :: ds, p, h, hr, hp => by
    obtain ⟨p1, p2, h1, h2, rfl⟩ := h
    have := hr t (by simp)
    exact ⟨p1, p2, Go.RowKit.Below.trod hlo this.1 this.2 h1 hb (fun x hx => hp x (by simp [hx])), row_back hlo hb h2 (fun t' ht => hr t' (by simp [ht])) (fun x hx => hp x (by simp [hx])), rfl⟩
  | [], _ :: _, _, _, h, _, _ => h.elim
  | [], [], _ :: _, _, h, _, _ => h.elim
  | _ :: _, [], _, _, h, _, _ => h.elim
  | _ :: _, _ :: _, [], _, h, _, _ => h.elim
end

/-! What the values of a type are. -/
section
variable {P : Program} {n : Nat} {t e : TypeId}
theorem wf_i64 {x : Int} (h : (Lit.int .i64 x).wf = true) : -9223372036854775808 ≤ x ∧ x < 9223372036854775808 := by
  simp [Lit.wf, IntKind.min, IntKind.max, IntKind.signed, IntKind.bits] at h
  omega
theorem wf_u8 {x : Int} (h : (Lit.int .u8 x).wf = true) : 0 ≤ x ∧ x < 256 := by
  simp [Lit.wf, IntKind.min, IntKind.max, IntKind.signed, IntKind.bits] at h
  omega
theorem tv_pos {vs : List V} (h : Tv P n t vs) : ∃ k, n = k + 1 := by
  cases n with
  | zero => simp [Tv] at h
  | succ k => exact ⟨k, rfl⟩
theorem tv_int {k : IntKind} (hu : P.underlying t = some (.int k)) {vs : List V} (h : Tv P n t vs) : ∃ x, vs = [.i k x] ∧ (Lit.int k x).wf = true := by
  obtain ⟨k, rfl⟩ := tv_pos h
  simpa only [Tv, hu] using h
theorem tv_bool (hu : P.underlying t = some .bool) {vs : List V} (h : Tv P n t vs) : ∃ b, vs = [.b b] := by
  obtain ⟨k, rfl⟩ := tv_pos h
  simpa only [Tv, hu] using h
theorem tv_str (hu : P.underlying t = some .string) {vs : List V} (h : Tv P n t vs) : ∃ s, vs = [.s s] ∧ s.size ≤ 140737488351232 := by
  obtain ⟨k, rfl⟩ := tv_pos h
  simp only [Tv, hu] at h
  exact h
theorem tv_sl (hu : P.underlying t = some (.slice e)) {α : Type} {f : α → List V} {Q : α → Prop} (hf : ∀ m p, Tv P m e p → m < n → ∃ a, p = f a ∧ Q a) {vs : List V} (h : Tv P n t vs) :
    ∃ l : List α, vs = [.sl (l.flatMap f) l.length] ∧ l.length ≤ 140737488351232 ∧ ∀ a ∈ l, Q a := by
  obtain ⟨k, rfl⟩ := tv_pos h
  simp only [Tv, hu] at h
  obtain ⟨els, rfl, h1, h2⟩ := h
  have : ∃ l : List α, els.flatten = l.flatMap f ∧ els.length = l.length ∧ ∀ a ∈ l, Q a := by
    clear h1
    induction els with
    | nil => exact ⟨[], rfl, rfl, by simp⟩
    | cons p els ih =>
      obtain ⟨l, q1, q2, q3⟩ := ih (fun p hp => h2 p (by simp [hp]))
      obtain ⟨a, rfl, ha⟩ := hf k p (h2 p (by simp)).2 (by omega)
      exact ⟨a :: l, by simp [q1], by simp [q2], by intro b hb; rcases List.mem_cons.1 hb with rfl | hb; exact ha; exact q3 b hb⟩
  obtain ⟨l, q1, q2, q3⟩ := this
  refine ⟨l, by rw [q1, q2], ?_, q3⟩
  rw [← q2]
  exact h1
theorem tv_st {fs : Array Go.Field} (hu : P.underlying t = some (.struct fs)) {vs : List V} (h : Tv P n t vs) : ∃ k, n = k + 1 ∧ TvF P k (fs.toList.map (·.type)) vs := by
  obtain ⟨k, rfl⟩ := tv_pos h
  simp only [Tv, hu] at h
  exact ⟨k, rfl, h⟩
/-- Of a type that is no struct. -/
theorem tvA_one {v : V} (h : TvA P n t v) (hu : ∀ fs, P.underlying t ≠ some (.struct fs)) : Tv P n t [v] := by
  unfold TvA at h
  split at h
  · rename_i fs hfs; exact absurd hfs (hu fs)
  · exact h
theorem tvA_st {v : V} {fs : Array Go.Field} (hu : P.underlying t = some (.struct fs)) (h : TvA P n t v) : ∃ vs, v = .ag vs ∧ Tv P n t vs := by
  unfold TvA at h
  rw [hu] at h
  exact h
theorem a_int {k : IntKind} (hu : P.underlying t = some (.int k)) {v : V} (h : TvA P n t v) : ∃ x, v = .i k x ∧ (Lit.int k x).wf = true := by
  obtain ⟨x, h1, h2⟩ := tv_int hu (tvA_one h (by rw [hu]; intro fs h; cases h))
  simp at h1
  exact ⟨x, h1, h2⟩
theorem a_bool (hu : P.underlying t = some .bool) {v : V} (h : TvA P n t v) : ∃ b, v = .b b := by
  obtain ⟨x, h1⟩ := tv_bool hu (tvA_one h (by rw [hu]; intro fs h; cases h))
  simp at h1
  exact ⟨x, h1⟩
theorem a_str (hu : P.underlying t = some .string) {v : V} (h : TvA P n t v) : ∃ s, v = .s s ∧ s.size ≤ 140737488351232 := by
  obtain ⟨x, h1, h2⟩ := tv_str hu (tvA_one h (by rw [hu]; intro fs h; cases h))
  simp at h1
  exact ⟨x, h1, h2⟩
theorem a_sl (hu : P.underlying t = some (.slice e)) {α : Type} {f : α → List V} {Q : α → Prop} (hf : ∀ m p, Tv P m e p → ∃ a, p = f a ∧ Q a) {v : V} (h : TvA P n t v) :
    ∃ l : List α, v = .sl (l.flatMap f) l.length ∧ l.length ≤ 140737488351232 ∧ ∀ a ∈ l, Q a := by
  obtain ⟨l, h1, h2, h3⟩ := tv_sl hu (fun m p hp _ => hf m p hp) (tvA_one h (by rw [hu]; intro fs h; cases h))
  simp at h1
  exact ⟨l, by simp [h1], h2, h3⟩
end
end Pi
