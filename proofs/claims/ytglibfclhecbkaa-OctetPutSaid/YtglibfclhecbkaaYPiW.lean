/- Rules for calls, rounds and answers. -/
import Derived.Test.YtglibfclhecbkaaYPiV
set_option linter.unusedSimpArgs false
set_option linter.unusedVariables false
namespace Pi
open Go (IntKind TypeId FuncId Fn BinOp UnOp LoopState)

section
variable {C : Ctx}

theorem loop_use {c : PCode} {s : S} {P Q : X → S → Prop} (h : ∃ xx s', Runs C c s xx s' ∧ P xx s') (k : ∀ xx s', P xx s' → Q xx s') : ∃ xx s', Runs C c s xx s' ∧ Q xx s' :=
  let ⟨xx, s', h1, h2⟩ := h; ⟨xx, s', h1, k xx s' h2⟩

/-- What a function answers, called closed: its value, frozen. -/
def Ans (C : Ctx) (g : Nat) (vs : List V) (w : V) : Prop := ∃ v m' x' rv' ids, Ent C g vs (fun _ => none) 0 none (.ret v) m' x' rv' ∧ freeze m' v = some (w, ids)

theorem ans_ok {g : Nat} {F : PFun} {vs : List V} {w : V} (hF : C.fns g = some F)
    (h : wp C F.code ⟨envOf vs, fun _ => none, 0, [], none, none⟩ fun xx s' => (xx = .ret ∨ xx = .nor) ∧ ∃ v ids m' x' rv', Leav C F s' none (.ret v) m' x' rv' ∧ freeze m' v = some (w, ids)) : Ans C g vs w := by
  obtain ⟨xx, s', h1, h2, v, ids, m', x', rv', h3, h4⟩ := wp_ok h
  refine ⟨v, m', x', rv', ids, Ev.succ ((h1.and h3).mono fun k hk => ?_), h4⟩
  simp only [enter, hF, Option.bind_some, hk.1]
  rcases h2 with rfl | rfl <;> exact hk.2

/-- What is asked of a state that a function leaves: what was put off are marks; then its value. -/
def DoneD (rs : List RVar) (e : Env) : List D → Sto → (V → Sto → Prop) → Prop
  | [], m, K => ∃ v, result e m rs = some v ∧ K v m
  | .mark l :: r, m, K => m l = some .dfr ∧ DoneD rs e r (m.set l none) K
  | .call _ _ :: _, _, _ => False
def Done (rs : List RVar) (s : S) (K : V → Sto → Prop) : Prop := DoneD rs s.e s.ds s.m K
/-- Its value, frozen. -/
def Frz (w : V) (v : V) (m : Sto) : Prop := ∃ ids, freeze m v = some (w, ids)

theorem fin_leav {F : PFun} {e : Env} {x : Nat} {rv : Option V} {rd : Option Nat} {K : V → Sto → Prop} : ∀ {ds : List D} {m : Sto}, DoneD F.rs e ds m K → ∃ v m', Leav C F ⟨e, m, x, ds, rv, rd⟩ none (.ret v) m' x rv ∧ K v m'
  | [], m, ⟨v, h1, h2⟩ => ⟨v, m, leav_none rfl h1, h2⟩
  | .mark l :: r, m, ⟨h1, h2⟩ => by
    obtain ⟨v, m', h3, h4⟩ := fin_leav (x := x) (rv := rv) (rd := rd) h2
    exact ⟨v, m', leav_mark rfl h1 h3, h4⟩
  | .call _ _ :: _, _, h => h.elim

theorem ans_fin {g : Nat} {F : PFun} {vs : List V} {w : V} (hF : C.fns g = some F)
    (h : wp C F.code ⟨envOf vs, fun _ => none, 0, [], none, none⟩ fun xx s' => (xx = .ret ∨ xx = .nor) ∧ Done F.rs s' (Frz w)) : Ans C g vs w := by
  obtain ⟨xx, ⟨e', m', x', ds, rv, rd⟩, h1, h2, h3⟩ := wp_ok h
  obtain ⟨v, m2, h4, ids, h5⟩ := fin_leav (C := C) (x := x') (rv := rv) (rd := rd) h3
  refine ⟨v, m2, x', rv, ids, Ev.succ ((h1.and h4).mono fun k hk => ?_), h5⟩
  simp only [enter, hF, Option.bind_some, hk.1]
  rcases h2 with rfl | rfl <;> exact hk.2

/-- An open call. -/
theorem wpCall_op {g : Nat} {F : PFun} {first cap args : List V} {m : Sto} {x : Nat} {K : CR → Sto → Nat → Prop} (hp : C.prim g = none) (ho : C.opn g = true ∨ freezeL m (first ++ args ++ cap) = none) (hF : C.fns g = some F)
    (h : wp C F.code ⟨envOf (first ++ args ++ cap), m, x, [], none, none⟩ fun xx s' => (xx = .ret ∨ xx = .nor) ∧ Done F.rs s' fun v m' => K (.ret v) m' s'.x) : wpCall C (.fn (.func g) first cap) args m x K := by
  obtain ⟨xx, ⟨e', m', x', ds, rv, rd⟩, h1, h2, h3⟩ := wp_ok h
  obtain ⟨v, m2, h4, h5⟩ := fin_leav (C := C) (x := x') (rv := rv) (rd := rd) h3
  refine ⟨.ret v, m2, x', call_open (rv1 := rv) hp ho (Ev.succ ((h1.and h4).mono fun k hk => ?_)), h5⟩
  simp only [enter, hF, Option.bind_some, hk.1]
  rcases h2 with rfl | rfl <;> exact hk.2

theorem ans_run {n g : Nat} {vs : List V} {v : V} {r : CR × Sto × Nat × Option V} (h : enter C n g vs (fun _ => none) 0 none = some r) (hr : r.1 = .ret v) {w : V} {ids : List Nat} (hf : freeze r.2.1 v = some (w, ids)) : Ans C g vs w := by
  obtain ⟨cr, m', x', rv'⟩ := r
  simp only at hr hf
  subst hr
  exact ⟨v, m', x', rv', ids, ent_of h, hf⟩

/-- A function without symbols: it is run. -/
def told (o : Option (CR × Sto × Nat × Option V)) : Option V := match o with | some (.ret v, m, _) => (freeze m v).map Prod.fst | _ => none
theorem ans_told {n g : Nat} {vs : List V} {w : V} (h : told (enter C n g vs (fun _ => none) 0 none) = some w) : Ans C g vs w := by
  unfold told at h
  split at h
  · rename_i v m p he
    obtain ⟨⟨w', ids⟩, h1, rfl⟩ := Option.map_eq_some_iff.1 h
    exact ans_run he rfl h1
  · cases h

/-- A closed call. -/
theorem wpCall_closed {g : Nat} {first cap args : List V} {m : Sto} {x : Nat} {K : CR → Sto → Nat → Prop} (hp : C.prim g = none) (ho : C.opn g = false) {a : List V × List Nat} (hz : freezeL m (first ++ args ++ cap) = some a) {w : V} (h : Ans C g a.1 w) :
    wpCall C (.fn (.func g) first cap) args m x K = K (.ret w) (if w.scal then m else markRo m a.2) x := by
  obtain ⟨v, m', x', rv', ids, h1, h2⟩ := h
  exact wpCall_eq (call_closed hp ho hz h1 h2)

theorem wpQuiet_closed {g : Nat} {first cap args : List V} {m : Sto} {x : Nat} {K : QR → Prop} (hp : C.prim g = none) (ho : C.opn g = false) {a : List V × List Nat} (hz : freezeL m (first ++ args ++ cap) = some a) {w : V} (h : Ans C g a.1 w)
    (hs : w.scal = true ∨ a.2 = []) : wpQuiet C (.fn (.func g) first cap) args m x K = K ⟨w, [], a.2, x⟩ := by
  obtain ⟨v, m', x', rv', ids, h1, h2⟩ := h
  refine wpQuiet_eq (Ev.succ (h1.mono fun k hk => ?_))
  unfold callQ
  simp only [hp, ho, Bool.false_eq_true, if_false, hz, hk, Option.bind_some, h2]
  rw [if_pos hs]

/-- An open call. -/
theorem wpCall_open {g : Nat} {F : PFun} {first cap args : List V} {m : Sto} {x : Nat} {K : CR → Sto → Nat → Prop} (hp : C.prim g = none) (ho : C.opn g = true ∨ freezeL m (first ++ args ++ cap) = none) (hF : C.fns g = some F)
    (h : wp C F.code ⟨envOf (first ++ args ++ cap), m, x, [], none, none⟩ fun xx s' => (xx = .ret ∨ xx = .nor) ∧ ∃ v m' x' rv', Leav C F s' none (.ret v) m' x' rv' ∧ K (.ret v) m' x') : wpCall C (.fn (.func g) first cap) args m x K := by
  obtain ⟨xx, s', h1, h2, v, m', x', rv', h3, h4⟩ := wp_ok h
  refine ⟨.ret v, m', x', call_open (rv1 := rv') hp ho (Ev.succ ((h1.and h3).mono fun k hk => ?_)), h4⟩
  simp only [enter, hF, Option.bind_some, hk.1]
  rcases h2 with rfl | rfl <;> exact hk.2

/-- A value handed to a loop over a function. -/
theorem wpCall_yield {ll : Nat} {args : List V} {m : Sto} {x : Nat} {K : CR → Sto → Nat → Prop} {q : LoopRec} (hm : m ll = some (.loop q)) (hst : q.st = .ready) {e : Env} (he : setAll q.e q.ps args = some e)
    (h : wp C q.asg ⟨e, m, x, [], none, some ll⟩ fun xx s1 => xx = .nor ∧ ∃ q', s1.m ll = some (.loop q') ∧ q'.st = .ready ∧
      wp C q.body { s1 with m := s1.m.set ll (some (.loop { q' with st := .busy })) } fun z s2 => s2.ds = [] ∧ match z with
        | .pan v => K (.pan v) s2.m s2.x
        | .nor => ∃ q'', s2.m ll = some (.loop q'') ∧ K (.ret (.b true)) (s2.m.set ll (some (.loop { q'' with st := .ready, pend := none }))) s2.x
        | y => ∃ q'', s2.m ll = some (.loop q'') ∧ K (.ret (.b false)) (s2.m.set ll (some (.loop { q'' with st := .done, pend := some y }))) s2.x) :
    wpCall C (.fn (.yield ll) [] []) args m x K := by
  obtain ⟨xx, s1, h1, rfl, q', h2, h3, h4⟩ := wp_ok h
  obtain ⟨z, s2, h5, h6, h7⟩ := wp_ok h4
  have hds : (!s2.ds.isEmpty) = false := by rw [h6]; rfl
  have run : ∀ {cr m' x'}, (∀ k, exec C k q.body { s1 with m := s1.m.set ll (some (.loop { q' with st := .busy })) } = some (z, s2) → (match z, s2.m ll with
      | .pan v, _ => some (.pan v, s2.m, s2.x)
      | .nor, some (.loop q'') => some (.ret (.b true), s2.m.set ll (some (.loop { q'' with st := .ready, pend := none })), s2.x)
      | y, some (.loop q'') => some (.ret (.b false), s2.m.set ll (some (.loop { q'' with st := .done, pend := some y })), s2.x)
      | _, _ => none) = some (cr, m', x')) → Call C (.fn (.yield ll) [] []) args m x cr m' x' := by
    intro cr m' x' hh
    refine Ev.succ ((h1.and h5).mono fun k hk => ?_)
    rw [callV.eq_def]
    simp only [hm, hst, if_true, he, Option.bind_some, hk.1, h2]
    rw [if_neg (by simp [h3])]
    simp only [hk.2, Option.bind_some, hds, Bool.false_eq_true, if_false]
    exact hh k hk.2
  cases z with
  | pan v => exact ⟨_, _, _, run (fun k hk => rfl), h7⟩
  | nor => obtain ⟨q'', h8, h9⟩ := h7; exact ⟨_, _, _, run (fun k hk => by simp only [h8]), h9⟩
  | ret => obtain ⟨q'', h8, h9⟩ := h7; exact ⟨_, _, _, run (fun k hk => by simp only [h8]), h9⟩
  | exit id => obtain ⟨q'', h8, h9⟩ := h7; exact ⟨_, _, _, run (fun k hk => by simp only [h8]), h9⟩

/-- A loop over a function. -/
theorem rf_ok {f : Opd} {ps : List Nat} {a b : PCode} {s : S} {Q : X → S → Prop} (hrd : s.rd = none)
    (h : wpCall C (f.ev s.e) [.fn (.yield (s.x + 1)) [] []] ((s.m.set s.x (some .dfr)).set (s.x + 1) (some (.loop ⟨s.e, ps, a, b, .ready, none⟩))) (s.x + 2) fun cr m' x' => match cr with
      | .pan v => Q (.pan v) { s with m := m', x := x', ds := .mark s.x :: s.ds }
      | .ret _ => ∃ q, m' (s.x + 1) = some (.loop q) ∧ q.st ≠ .busy ∧ Q (match q.pend with | none => .nor | some y => y) { s with m := m'.set (s.x + 1) none, x := x', ds := .mark s.x :: s.ds }) :
    ∃ xx s', Runs C (.rf f ps a b) s xx s' ∧ Q xx s' := by
  obtain ⟨cr, m', x', h1, h2⟩ := h
  have hir : inRound s = true := by simp [inRound, hrd]
  cases cr with
  | pan v =>
    refine ⟨_, _, Ev.succ (h1.mono fun k hk => ?_), h2⟩
    rw [exec.eq_def]
    simp only [hrd, Option.isSome_none, Bool.false_eq_true, if_false, hir, Bool.not_true]
    rw [hk]
    rfl
  | ret v =>
    obtain ⟨q, h3, h4, h5⟩ := h2
    refine ⟨_, _, Ev.succ (h1.mono fun k hk => ?_), h5⟩
    rw [exec.eq_def]
    simp only [hrd, Option.isSome_none, Bool.false_eq_true, if_false, hir, Bool.not_true]
    rw [hk]
    simp only [Option.bind_some, h3, h4, if_false]
    rfl

end
end Pi
