/- The run of code: a call. -/
import Derived.Test.YtglibfclhecbkaaYPiJ
set_option linter.unusedSimpArgs false
namespace Pi
open Go (IntKind TypeId FuncId Fn BinOp UnOp LoopState Value Addr World Program undef Operand Sem Result Frame Item step lone Steps step_lone_go stepG)
open Classical

/-- Some blocks are read-only from here on. -/
noncomputable def lock (r : Ro) (p : Nat → Prop) (w : World) : Ro := fun b => if p b then w.heap[b]? else r b

def Lent (g : G) (ids : List Nat) (b : Nat) : Prop := ∃ l ∈ ids, ∃ n, g.rho l = some (b, n)

/-- What a closed call knows. -/
noncomputable def shut (g : G) (ids : List Nat) (w : World) : G := ⟨noRho, lock g.ro (Lent g ids) w, fun b => w.heap[b]?⟩

section
variable {P : Program} {C : Ctx} {n : Nat}

theorem lock_ext {g : G} {m : Sto} {w : World} (hw : WR P g m w) (p : Nat → Prop) : RoE g.ro (lock g.ro p w) := by
  intro b o h
  unfold lock
  split
  · exact hw.keep _ _ (hw.ro _ _ h)
  · exact h

theorem shut_wr {g : G} {m : Sto} {w : World} (hw : WR P g m w) (ids : List Nat) : WR P (shut g ids w) (fun _ => none) w := by
  refine ⟨fun l o h => (by cases h), fun l k o o' b n n' h => (by cases h), fun b o h => ?_, fun b o h => h⟩
  simp only [shut, lock] at h ⊢
  split at h
  · exact h
  · exact hw.keep _ _ (hw.ro _ _ h)

/-- A closed call: what it answers, in the caller's sight. -/
theorem closed_ok {g : G} {m : Sto} {w : World} (hw : WR P g m w) {ids : List Nat} (hi : There m ids) {g1 : G} {m1 : Sto} {w1 : World} (hg : GE (shut g ids w) g1) (hw1 : WR P g1 m1 w1) (hb : WB w w1)
    {v : V} {v' : Value} (hv : VR g1.ro v g1.rho v') {r : V × List Nat} (hf : freeze m1 v = some r) :
    (WR P g m w1) ∧ (r.1.scal = true → VR g.ro r.1 g.rho v') ∧
    ∃ g', g'.rho = g.rho ∧ GE g g' ∧ WR P g' (markRo m ids) w1 ∧ VR g'.ro r.1 g'.rho v' := by
  -- what stays
  have same : ∀ b o, w.heap[b]? = some o → w1.heap[b]? = some o := fun b o h => hw1.keep _ _ (hg.keep _ _ h)
  have same' : ∀ b, b < w.heap.size → w1.heap[b]? = w.heap[b]? := by
    intro b hlt
    have : w.heap[b]? = some w.heap[b] := Array.getElem?_eq_getElem hlt
    rw [this]
    exact same _ _ this
  let p : Nat → Prop := fun b => w.heap.size ≤ b ∨ Lent g ids b
  let rF : Ro := lock g.ro p w1
  have hlt : ∀ {b o}, g.keep b = some o → b < w.heap.size := fun h => (Array.getElem?_eq_some_iff.1 (hw.keep _ _ h)).1
  have ext : RoE g1.ro rF := by
    intro b o h
    have h1 := hw1.keep _ _ (hw1.ro _ _ h)
    simp only [rF, lock]
    split
    · exact h1
    · rename_i hp
      rcases hg.new b o h with h2 | h2
      · simp only [shut, lock] at h2
        split at h2
        · rename_i hl; exact absurd (.inr hl) hp
        · exact h2
      · simp only [shut] at h2
        exact absurd (.inl (by simpa using h2)) hp
  have seen : Seen g1 rF w1 r.2 := by
    intro l hl b k hb1
    have obj : ∃ o, m1 l = some o ∧ (∀ q, o ≠ .loop q) ∧ o ≠ .dfr := by
      rcases freeze_there hf l hl with ⟨cs, r, h⟩ | ⟨ks, vs, r, h⟩ <;> exact ⟨_, h, by simp, by simp⟩
    obtain ⟨o, ho, hnl, hnd⟩ := obj
    obtain ⟨b', n', e1, e2⟩ := hw1.obj l o ho
    rw [hb1] at e1
    cases e1
    have key : g1.ro b = w1.heap[b]? ∨ g1.keep b = none := by
      cases o with
      | cells cs ro =>
        obtain ⟨arr, e, f, h1, _, _, _, _, h2⟩ := e2
        cases ro with
        | true => exact .inl (by simp only [if_true] at h2; rw [h2, h1])
        | false => exact .inr (by simpa using h2)
      | map ks vs ro =>
        obtain ⟨es, ck, h1, _, _, _, _, h2⟩ := e2
        cases ro with
        | true => exact .inl (by simp only [if_true] at h2; rw [h2, h1])
        | false => exact .inr (by simpa using h2)
      | loop q => exact absurd rfl (hnl q)
      | dfr => exact absurd rfl hnd
    rcases key with h | h
    · have hlt1 : b < w1.heap.size := e2.lt
      have h2 : w1.heap[b]? = some w1.heap[b] := Array.getElem?_eq_getElem hlt1
      rw [h2] at h ⊢
      exact ext _ _ h
    · have : w.heap[b]? = none := by
        cases hh : w.heap[b]? with
        | none => rfl
        | some q => rw [hg.keep b q hh] at h; cases h
      simp only [rF, lock]
      rw [if_pos (.inl (by simpa using this))]
  have hvF := freeze_ok hw1 ext hf seen hv
  have wrSame : WR P g m w1 := ⟨fun l o h => let ⟨b, k, h1, h2⟩ := hw.obj l o h; ⟨b, k, h1, h2.mono (RhoE.refl _) (RoE.refl _) id (same' b h2.lt)⟩, hw.inj, hw.ro, fun b o h => same _ _ (hw.keep _ _ h)⟩
  refine ⟨wrSame, fun hs => scal_ok hs hvF, ⟨g.rho, rF, lock g.keep p w1⟩, rfl, ?_, ?_, ?_⟩
  · refine ⟨RhoE.refl _, lock_ext wrSame _, ?_, ?_⟩
    · intro b o h
      show lock g.keep p w1 b = some o
      unfold lock
      split
      · exact same _ _ (hw.keep _ _ h)
      · exact h
    · intro b o h
      simp only [rF, lock] at h
      split at h
      · rename_i hp
        rcases hp with hp | ⟨l, hl, k, hp⟩
        · right
          cases hh : g.keep b with
          | none => rfl
          | some q => have := hlt hh; omega
        · have hobj : ∃ o, m l = some o ∧ (∀ q, o ≠ .loop q) ∧ o ≠ .dfr := by
            rcases hi l hl with ⟨cs, r, h⟩ | ⟨ks, vs, r, h⟩ <;> exact ⟨_, h, by simp, by simp⟩
          obtain ⟨q, hq, hnl, hnd⟩ := hobj
          obtain ⟨b', n', e1, e2⟩ := wrSame.obj l q hq
          rw [hp] at e1
          cases e1
          cases q with
          | cells cs ro =>
            obtain ⟨arr, e, f, h1, _, _, _, _, h2⟩ := e2
            cases ro with
            | true => left; simp only [if_true] at h2; rw [h2, ← h1, h]
            | false => exact .inr (by simpa using h2)
          | map ks vs ro =>
            obtain ⟨es, ck, h1, _, _, _, _, h2⟩ := e2
            cases ro with
            | true => left; simp only [if_true] at h2; rw [h2, ← h1, h]
            | false => exact .inr (by simpa using h2)
          | loop q => exact absurd rfl (hnl q)
          | dfr => exact absurd rfl hnd
      · exact .inl h
  · -- the marked store
    have mk : ∀ (ids : List Nat) (m : Sto) (l : Nat) (o : PObj), markRo m ids l = some o → ∃ o0, m l = some o0 ∧ (o = o0 ∧ (l ∉ ids ∨ (∃ q, o = .loop q) ∨ o = .dfr ∨ (∃ cs, o = .cells cs true) ∨ (∃ ks vs, o = .map ks vs true)) ∨ l ∈ ids ∧ ((∃ cs r, o0 = .cells cs r ∧ o = .cells cs true) ∨ (∃ ks vs r, o0 = .map ks vs r ∧ o = .map ks vs true))) := by
      intro ids
      induction ids with
      | nil => intro m l o h; exact ⟨o, h, .inl ⟨rfl, .inl (by simp)⟩⟩
      | cons a ids ih =>
        intro m l o h
        simp only [markRo] at h
        obtain ⟨o0, h1, h2⟩ := ih _ _ _ h
        by_cases e : l = a
        · subst e
          rw [Sto.set_same] at h1
          cases hm : m l with
          | none => rw [hm] at h1; cases h1
          | some q =>
            rw [hm] at h1
            refine ⟨q, rfl, ?_⟩
            cases q with
            | cells cs r =>
              simp only [Option.some.injEq] at h1
              subst h1
              right
              refine ⟨List.mem_cons_self, .inl ⟨cs, r, rfl, ?_⟩⟩
              rcases h2 with ⟨h2, _⟩ | ⟨_, ⟨cs', r', h2, h3⟩ | ⟨ks', vs', r', h2, h3⟩⟩
              · exact h2
              · cases h2; exact h3
              · cases h2
            | map ks vs r =>
              simp only [Option.some.injEq] at h1
              subst h1
              right
              refine ⟨List.mem_cons_self, .inr ⟨ks, vs, r, rfl, ?_⟩⟩
              rcases h2 with ⟨h2, _⟩ | ⟨_, ⟨cs', r', h2, h3⟩ | ⟨ks', vs', r', h2, h3⟩⟩
              · exact h2
              · cases h2
              · cases h2; exact h3
            | loop q =>
              simp only [Option.some.injEq] at h1
              subst h1
              left
              rcases h2 with ⟨h2, _⟩ | ⟨_, ⟨cs', r', h2, h3⟩ | ⟨ks', vs', r', h2, h3⟩⟩
              · exact ⟨h2, .inr (.inl ⟨q, h2⟩)⟩
              · cases h2
              · cases h2
            | dfr =>
              simp only [Option.some.injEq] at h1
              subst h1
              left
              rcases h2 with ⟨h2, _⟩ | ⟨_, ⟨cs', r', h2, h3⟩ | ⟨ks', vs', r', h2, h3⟩⟩
              · exact ⟨h2, .inr (.inr (.inl h2))⟩
              · cases h2
              · cases h2
        · rw [Sto.set_ne _ _ e] at h1
          refine ⟨o0, h1, ?_⟩
          rcases h2 with ⟨h2, h3⟩ | ⟨h2, h3⟩
          · left
            refine ⟨h2, ?_⟩
            rcases h3 with h3 | h3
            · exact .inl (by simp [e, h3])
            · exact .inr h3
          · right
            exact ⟨List.mem_cons_of_mem _ h2, h3⟩
    refine ⟨fun l o h => ?_, fun l k o o' b n1 n2 h h' => ?_, fun b o h => ?_, fun b o h => ?_⟩
    · obtain ⟨o0, h1, h2⟩ := mk ids m l o h
      obtain ⟨b, k, e1, e2⟩ := wrSame.obj l o0 h1
      refine ⟨b, k, e1, ?_⟩
      have old : b < w.heap.size := by
        obtain ⟨b', k', e3, e4⟩ := hw.obj l o0 h1
        rw [e1] at e3
        cases e3
        exact e4.lt
      have hrF := lock_ext (P := P) wrSame p
      rcases h2 with ⟨rfl, h3⟩ | ⟨hin, h3⟩
      · -- as it was
        by_cases hpb : p b
        · -- its block is lent: it is marked
          have hin : l ∈ ids := by
            rcases hpb with h4 | ⟨l', hl', k', h4⟩
            · omega
            · have : ∃ o', m l' = some o' := by rcases hi l' hl' with ⟨_, _, h⟩ | ⟨_, _, _, h⟩ <;> exact ⟨_, h⟩
              obtain ⟨o', ho'⟩ := this
              have := hw.inj l l' o o' b k k' h1 ho' e1 h4
              subst this
              exact hl'
          have hnot : (∃ cs, o = .cells cs true) ∨ (∃ ks vs, o = .map ks vs true) := by
            rcases h3 with h3 | ⟨q, h3⟩ | h3 | h3 | h3
            · exact absurd hin h3
            · rcases hi l hin with ⟨_, _, h⟩ | ⟨_, _, _, h⟩ <;> (rw [h1] at h; cases h; cases h3)
            · rcases hi l hin with ⟨_, _, h⟩ | ⟨_, _, _, h⟩ <;> (rw [h1] at h; cases h; cases h3)
            · exact .inl h3
            · exact .inr h3
          rcases hnot with ⟨cs, rfl⟩ | ⟨ks, vs, rfl⟩
          · obtain ⟨arr, e, f, a1, a2, a3, a4, a5, a6⟩ := e2
            exact ⟨arr, e, f, a1, a2, a3, PR.mono hrF _ (RhoE.refl _) a4, a5, by simp only [if_true] at a6 ⊢; exact hrF _ _ a6⟩
          · obtain ⟨es, ck, a1, a2, a3, a4, a5, a6⟩ := e2
            exact ⟨es, ck, a1, a2, a3, PR.mono hrF _ (RhoE.refl _) a4, PR.mono hrF _ (RhoE.refl _) a5, by simp only [if_true] at a6 ⊢; exact hrF _ _ a6⟩
        · refine e2.mono (RhoE.refl _) hrF (fun hk => ?_) rfl
          show lock g.keep p w1 b = none
          unfold lock
          rw [if_neg hpb]
          exact hk
      · have hpb : p b := .inr ⟨l, hin, k, e1⟩
        have lockb : rF b = w1.heap[b]? := by simp only [rF, lock]; rw [if_pos hpb]
        rcases h3 with ⟨cs, r, rfl, rfl⟩ | ⟨ks, vs, r, rfl, rfl⟩
        · obtain ⟨arr, e, f, a1, a2, a3, a4, a5, a6⟩ := e2
          exact ⟨arr, e, f, a1, a2, a3, PR.mono hrF _ (RhoE.refl _) a4, a5, by simp only [if_true]; exact lockb.trans a1⟩
        · obtain ⟨es, ck, a1, a2, a3, a4, a5, a6⟩ := e2
          exact ⟨es, ck, a1, a2, a3, PR.mono hrF _ (RhoE.refl _) a4, PR.mono hrF _ (RhoE.refl _) a5, by simp only [if_true]; exact lockb.trans a1⟩
    · obtain ⟨o0, h1, _⟩ := mk ids m l o h
      obtain ⟨o1, h2, _⟩ := mk ids m k o' h'
      exact hw.inj l k o0 o1 b n1 n2 h1 h2
    · simp only [rF, lock] at h ⊢
      by_cases hp : p b
      · rw [if_pos hp] at h ⊢; exact h
      · rw [if_neg hp] at h ⊢; exact hw.ro _ _ h
    · simp only [lock] at h
      split at h
      · exact h
      · exact same _ _ (hw.keep _ _ h)
  · exact VR.mono (RoE.refl _) _ (fun l r h => by cases h) hvF

theorem callFunc_run {g : Nat} {fn : Go.Func} (hf : P.funcs[g]? = some fn) (hn : fn.name ≠ "runtime.NumGoroutine") (hb : fn.body.isSome) (args : Array Value) (w : World) :
    (Go.callFunc g args).run P w = .ok (.enter g args) w := by
  have hb' : fn.body.isNone = false := by cases hh : fn.body <;> simp [hh] at hb ⊢
  simp [Go.callFunc, hf, hn, hb']
  try (intro h; rw [h] at hb; simp at hb)

theorem callM_func {g : Nat} {fn : Go.Func} (hf : P.funcs[g]? = some fn) (hn : fn.name ≠ "runtime.NumGoroutine") (hb : fn.body.isSome) (a c args : Array Value) (w : World) :
    (callM (.func (.func g) a c) args).run P w = .ok (.enter g (a ++ args ++ c)) w := by
  simp only [callM, Go.Deferred.ofValue, Go.invoke, Sem.run_bind, Sem.run_pure, Result.andThen_ok]
  exact callFunc_run hf hn hb _ w

theorem Lnk.known (lk : Lnk P C) {g : Nat} {F : PFun} (h : C.fns g = some F) : ∃ fn, P.funcs[g]? = some fn ∧ fn.name ≠ "runtime.NumGoroutine" ∧ fn.body.isSome := by
  obtain ⟨fn, p1, p2, p3⟩ := lk.fns _ _ h
  refine ⟨fn, p1, p3, ?_⟩
  simp only [compF, Option.bind_eq_some_iff] at p2
  obtain ⟨c, hc, _⟩ := p2
  simp [hc]

theorem enter_known (lk : Lnk P C) {g : Nat} {as : List V} {m : Sto} {x : Nat} {rv : Option V} {r : CR × Sto × Nat × Option V} (h : enter C n g as m x rv = some r) :
    ∃ fn, P.funcs[g]? = some fn ∧ fn.name ≠ "runtime.NumGoroutine" ∧ fn.body.isSome := by
  cases n with
  | zero => simp [enter] at h
  | succ n =>
    simp only [enter, Option.bind_eq_some_iff] at h
    obtain ⟨F1, hF1, _⟩ := h
    exact lk.known hF1

/-- A frame that is left hands on what it has. -/
theorem left_steps {g : G} {fr c : Frame} {cs : List Frame} {w : World} (hk : fr.kind = .normal) : ∀ {cr : CR}, Left P g fr w cr → Handed P g (lone fr (c :: cs) w) c cs w cr
  | .ret v, h => by
    obtain ⟨h1, h2, fn, v', h3, h4, h5⟩ := h
    exact ⟨v', h5, .one (s_return h1 h2 hk h3 h4 c)⟩
  | .pan v, h => by
    obtain ⟨h2, fn, v', h3, h4, h5⟩ := h
    exact ⟨v', h5, .one (s_raise h4 h2 h3 c)⟩

theorem Handed.steps {g : G} {m m' : Go.Machine} {fr : Frame} {cs : List Frame} {w : World} (h : Steps P m m') : ∀ {cr : CR}, Handed P g m' fr cs w cr → Handed P g m fr cs w cr
  | .ret _, k => let ⟨v', h1, h2⟩ := k; ⟨v', h1, h.trans h2⟩
  | .pan _, k => let ⟨v', h1, h2⟩ := k; ⟨v', h1, h.trans h2⟩

theorem setAll_ok {g : G} {N : Nat} : ∀ {ps : List Nat} {args : List V} {e e' : Env} {as : List Value} {tm : Array Value}, setAll e ps args = some e' → ER g e tm → N ≤ tm.size → (∀ t ∈ ps, t < N) → PR g.ro args g.rho as → args.length = as.length →
    ER g e' ((ps.zip as).foldl (fun tmps p => tmps.setIfInBounds p.1 p.2) tm) ∧ N ≤ ((ps.zip as).foldl (fun tmps p => tmps.setIfInBounds p.1 p.2) tm).size ∧ ps.length = as.length
  | [], [], e, e', as, tm, h, he, hN, hp, hv, hl => by
    simp only [setAll, Option.some.injEq] at h
    subst h
    cases as with
    | nil => exact ⟨he, hN, rfl⟩
    | cons a b => simp at hl
  | t :: ps, v :: args, e, e', as, tm, h, he, hN, hp, hv, hl => by
    simp only [setAll] at h
    obtain ⟨v', r, rfl, h2, h3⟩ := hv
    simp only [List.zip_cons_cons, List.foldl_cons]
    obtain ⟨q1, q2, q3⟩ := setAll_ok (N := N) h (he.put hN (hp t (List.mem_cons_self)) h2) (by simpa using hN) (fun k hk => hp k (List.mem_cons_of_mem _ hk)) h3 (by simpa using hl)
    exact ⟨q1, q2, by simp [q3]⟩
  | [], _ :: _, e, e', as, tm, h, _, _, _, _, _ => by simp [setAll] at h
  | _ :: _, [], e, e', as, tm, h, _, _, _, _, _ => by simp [setAll] at h

end
end Pi
