/- A value-level interpreter of the compiled code, its soundness and its rules, part 3. -/
import Derived.Test.YtglabbjideniaaaGreatFw2
import Derived.Orders
import Derived.Below
import Derived.Test.YtglabbjideniaaaGreatFw1
import Derived.Carry
import Derived.ChangeArms
import Derived.DataReads
set_option linter.unusedSimpArgs false
set_option linter.unusedVariables false
/- Open order: any order that the edges allow comes to the same. -/
namespace Pi
open Go (IntKind TypeId FuncId Fn BinOp UnOp LoopState Value Addr World Program undef Operand Sem Result Frame Item step lone Steps step_lone_go stepG)

/-- An operation of open order, carried out. -/
structure Rec where
  k : Nat
  p : POper
  n : Nat
  x : Nat
  q : V × Ws × List Nat × Nat
  /-- the slots that it saw -/
  ea : Env

def stepR (C : Ctx) (r : Rec) (e : Env) (m : Sto) : Prop := stepA C r.n r.p e m r.x = some r.q ∧ ∀ t ∈ r.p.reads, e t = r.ea t
def RunL (C : Ctx) : List Rec → Env → Sto → Env → Sto → Prop
  | [], e, m, e', m' => e' = e ∧ m' = m
  | r :: rs, e, m, e', m' => stepR C r e m ∧ RunL C rs (updE e r.p.d r.q.1) (m.app r.q.2.1) e' m'

/-- One tells the same behind what the other one writes. -/
def Imm (C : Ctx) (a b : Rec) : Prop := a.q.2.1 = [] ∧ ∀ m', stepA C a.n a.p a.ea m' a.x = some a.q → stepA C a.n a.p a.ea (m'.app b.q.2.1) a.x = some a.q
structure Apart (C : Ctx) (a b : Rec) : Prop where
  slots : slotsMeet a.p b.p = false
  mem : (a.p.o.cls + b.p.o.cls ≥ 3 → (∀ r ∈ a.q.2.1, r.1 ∉ b.q.2.2.1) ∧ ∀ s ∈ b.q.2.1, s.1 ∉ a.q.2.2.1) ∨ Imm C a b

theorem app_cons (m : Sto) (p : Nat × Option PObj) (ws : Ws) : m.app (p :: ws) = (m.set p.1 p.2).app ws := rfl

theorem app_other : ∀ {ws : Ws} {m : Sto} {l : Nat}, (∀ q ∈ ws, q.1 ≠ l) → m.app ws l = m l
  | [], _, _, _ => rfl
  | p :: ws, m, l, h => by
    rw [app_cons, app_other (fun q hq => h q (List.mem_cons_of_mem _ hq)), Sto.set_ne _ _ (h p (List.mem_cons_self)).symm]

theorem app_alike : ∀ {ws : Ws} {m m' : Sto} {l : Nat}, (m l = m' l ∨ ∃ q ∈ ws, q.1 = l) → m.app ws l = m'.app ws l
  | [], _, _, _, h => by
    rcases h with h | ⟨q, hq, _⟩
    · exact h
    · cases hq
  | p :: ws, m, m', l, h => by
    rw [app_cons, app_cons]
    refine app_alike ?_
    by_cases e : l = p.1
    · left; subst e; rw [Sto.set_same, Sto.set_same]
    · rcases h with h | ⟨q, hq, e2⟩
      · left; rw [Sto.set_ne _ _ e, Sto.set_ne _ _ e]; exact h
      · rcases List.mem_cons.1 hq with rfl | hq
        · exact absurd e2.symm e
        · exact .inr ⟨q, hq, e2⟩

theorem app_comm {m : Sto} {u w : Ws} (h : ∀ r ∈ u, ∀ s ∈ w, r.1 ≠ s.1) : (m.app u).app w = (m.app w).app u := by
  funext l
  by_cases hu : ∃ q ∈ u, q.1 = l
  · have hw : ∀ q ∈ w, q.1 ≠ l := by
      intro s hs e
      obtain ⟨r, hr, e2⟩ := hu
      exact h r hr s hs (e2.trans e.symm)
    rw [app_other hw]
    exact app_alike (.inr hu)
  · have hu' : ∀ q ∈ u, q.1 ≠ l := fun q hq e => hu ⟨q, hq, e⟩
    rw [app_other (m := m.app w) hu']
    exact app_alike (.inl (app_other hu'))

theorem meet_off {a b : POper} (h : slotsMeet a b = false) : (∀ t, a.d = some t → t ∉ b.reads ∧ b.d ≠ some t) ∧ (∀ t, b.d = some t → t ∉ a.reads) := by
  unfold slotsMeet at h
  rw [Bool.or_eq_false_iff] at h
  obtain ⟨h1, h2⟩ := h
  constructor
  · intro t ht
    simp only [ht, Bool.or_eq_false_iff] at h1
    exact ⟨by simpa using h1.1, by simpa using h1.2⟩
  · intro t ht
    simp only [ht] at h2
    simpa using h2

theorem updE_other {e : Env} {d : Option Nat} {v : V} {t : Nat} (h : d ≠ some t) : updE e d v t = e t := by
  cases d with
  | none => rfl
  | some k =>
    simp only [updE, Env.set]
    rw [if_neg (fun e => h (by rw [e]))]

theorem updE_comm {e : Env} {d k : Option Nat} {v u : V} (h : ∀ t, d = some t → k ≠ some t) : updE (updE e d v) k u = updE (updE e k u) d v := by
  funext t
  by_cases h1 : d = some t
  · have h2 := h t h1
    rw [updE_other h2]
    subst h1
    simp [updE, Env.set]
  · rw [updE_other (d := d) h1]
    cases k with
    | none => simp only [updE]; exact updE_other h1
    | some j =>
      simp only [updE, Env.set]
      by_cases h2 : t = j
      · simp [h2]
      · simp only [h2, if_false]; exact updE_other h1

section
variable {P : Program} {C : Ctx} {n : Nat}

theorem swap (lk : Lnk P C) {a b : Rec} {rs : List Rec} {e e' : Env} {m m' : Sto} (h : RunL C (a :: b :: rs) e m e' m') (hp : Apart C a b) : RunL C (b :: a :: rs) e m e' m' := by
  obtain ⟨⟨h1, r1⟩, ⟨h2, r2⟩, h3⟩ := h
  obtain ⟨_, a1, a2⟩ := stepA_ws lk h1
  obtain ⟨_, b1, b2⟩ := stepA_ws lk h2
  obtain ⟨s1, s2⟩ := meet_off hp.slots
  have A1 : ∀ r ∈ a.q.2.1, r.1 ∉ b.q.2.2.1 := by
    intro r hr
    rcases hp.mem with hm | hm
    · obtain ⟨c1, c2⟩ := a1 r hr
      by_cases hb : b.p.o.cls = 0
      · rw [b2 hb]; simp
      · exact (hm (by omega)).1 r hr
    · rw [hm.1] at hr; cases hr
  have A3 : ∀ r ∈ a.q.2.1, ∀ s ∈ b.q.2.1, r.1 ≠ s.1 := by
    intro r hr s hs e
    exact A1 r hr (e ▸ (b1 s hs).2)
  have eb : ∀ t ∈ b.p.reads, e t = updE e a.p.d a.q.1 t := fun t ht => (updE_other (fun hd => (s1 t hd).1 ht)).symm
  have ea : ∀ t ∈ a.p.reads, updE e b.p.d b.q.1 t = e t := fun t ht => updE_other (fun hd => s2 t hd ht)
  have hb : stepA C b.n b.p e m b.x = some b.q := by
    refine stepA_same lk h2 eb (fun l hl => ?_)
    exact (app_other (fun q hq e => A1 q hq (e ▸ hl))).symm
  have ha : stepA C a.n a.p (updE e b.p.d b.q.1) (m.app b.q.2.1) a.x = some a.q := by
    rcases hp.mem with hm | hm
    · refine stepA_same lk h1 ea (fun l hl => ?_)
      refine app_other (fun q hq e => ?_)
      obtain ⟨c1, c2⟩ := b1 q hq
      by_cases ha : a.p.o.cls = 0
      · rw [a2 ha] at hl; simp at hl
      · exact (hm (by omega)).2 q hq (e ▸ hl)
    · have z1 : stepA C a.n a.p a.ea m a.x = some a.q := stepA_same lk h1 (fun t ht => (r1 t ht).symm) (fun _ _ => rfl)
      exact stepA_same lk (hm.2 m z1) (fun t ht => (ea t ht).trans (r1 t ht)) (fun _ _ => rfl)
  refine ⟨⟨hb, fun t ht => (eb t ht).trans (r2 t ht)⟩, ⟨ha, fun t ht => (ea t ht).trans (r1 t ht)⟩, ?_⟩
  rw [updE_comm (d := b.p.d) (fun t ht hd => (s1 t hd).2 ht), app_comm (u := b.q.2.1) (fun r hr s hs e => A3 s hs r hr e.symm)]
  exact h3

theorem pull (lk : Lnk P C) {b : Rec} {rs : List Rec} : ∀ {A : List Rec} {e e' : Env} {m m' : Sto}, RunL C (A ++ b :: rs) e m e' m' → (∀ a ∈ A, Apart C a b) → RunL C (b :: (A ++ rs)) e m e' m'
  | [], _, _, _, _, h, _ => h
  | a :: A, _, _, _, _, h, hp => by
    obtain ⟨h1, h2⟩ := h
    have h3 := pull lk (A := A) h2 (fun a' ha' => hp a' (List.mem_cons_of_mem _ ha'))
    exact swap lk ⟨h1, h3⟩ (hp a (List.mem_cons_self))

/-- The text's run, told. -/
theorem recs (lk : Lnk P C) : ∀ {ps : List POper} {n : Nat} {s s' : S} {ts ts' : List Tch} (lo : Nat), runAny C n ps s ts = some (.nor, s', ts') →
    ∃ R : List Rec, R.map Rec.p = ps ∧ R.map Rec.k = List.range' lo ps.length ∧ RunL C R s.e s.m s'.e s'.m ∧ s'.ds = s.ds ∧ s'.rv = s.rv ∧ s'.rd = s.rd ∧ ts' = ts.reverse ++ R.map (fun r => entA r.p r.ea r.q) ∧ s.x ≤ s'.x ∧
      (∀ r ∈ R, s.x ≤ r.x ∧ r.q.2.2.2 ≤ s'.x ∧ r.n < n) ∧ R.Pairwise (fun a b => a.q.2.2.2 ≤ b.x)
  | [], n, s, s', ts, ts', lo, h => by
    cases n with
    | zero => simp [runAny] at h
    | succ n =>
      simp only [runAny, Option.some.injEq, Prod.mk.injEq] at h
      obtain ⟨_, rfl, rfl⟩ := h
      exact ⟨[], rfl, rfl, ⟨rfl, rfl⟩, rfl, rfl, rfl, by simp, Nat.le_refl _, by simp, .nil⟩
  | p :: ps, n, s, s', ts, ts', lo, h => by
    cases n with
    | zero => simp [runAny] at h
    | succ n =>
      rw [runAny_cons] at h
      split at h
      · split at h
        · cases h
        · cases h
      simp only [Option.bind_eq_some_iff] at h
      obtain ⟨q, h1, h2⟩ := h
      obtain ⟨R, r1, r2, r3, r4, r5, r6, r7, r8, r9, r10⟩ := recs lk (lo + 1) h2
      have hx := (stepA_ws lk h1).1
      simp only at r3 r4 r5 r6 r8 r9
      refine ⟨⟨lo, p, n, s.x, q, s.e⟩ :: R, by simp [r1], by simp [r2, List.range'_succ], ⟨⟨h1, fun _ _ => rfl⟩, r3⟩, r4, r5, r6, by simp [r7], by omega, ?_, ?_⟩
      · intro r hr
        rcases List.mem_cons.1 hr with rfl | hr
        · exact ⟨Nat.le_refl _, r8, by simp⟩
        · obtain ⟨a1, a2, a3⟩ := r9 r hr
          exact ⟨by omega, a2, by omega⟩
      · refine List.pairwise_cons.2 ⟨fun r hr => (r9 r hr).1, r10⟩

/-- The text's run up to a call that ends in panic, told. -/
theorem recsP (lk : Lnk P C) : ∀ {ps : List POper} {n : Nat} {s s' : S} {ts ts' : List Tch} {v : V} (lo : Nat), runAny C n ps s ts = some (.pan v, s', ts') →
    ∃ (R : List Rec) (nP xP : Nat) (p : POper) (q : QR) (r : List POper) (e1 : Env), ps = R.map Rec.p ++ p :: r ∧ R.map Rec.k = List.range' lo R.length ∧ RunL C R s.e s.m e1 s.m ∧ (∀ a ∈ R, a.q.2.1 = []) ∧ noWs ts = true ∧ stepP C nP p e1 s.m xP = some q ∧ lateOk p.d r = true ∧
      q.v = v ∧ s' = { s with e := fun _ => .un, m := s.m.app q.ws, x := q.x + r.length } ∧ s.x ≤ xP ∧ nP < n ∧ (∀ a ∈ R, s.x ≤ a.x ∧ a.q.2.2.2 ≤ xP ∧ a.n < n) ∧ R.Pairwise (fun a b => a.q.2.2.2 ≤ b.x)
  | [], n, s, s', ts, ts', v, lo, h => by
    cases n with
    | zero => simp [runAny] at h
    | succ n => simp [runAny] at h
  | p :: ps, n, s, s', ts, ts', v, lo, h => by
    cases n with
    | zero => simp [runAny] at h
    | succ n =>
      rw [runAny_cons] at h
      split at h
      · rename_i q hq
        split at h
        · rename_i hc
          simp only [Option.some.injEq, Prod.mk.injEq, X.pan.injEq] at h
          obtain ⟨h1, h2, _⟩ := h
          simp only [Bool.and_eq_true] at hc
          exact ⟨[], n, s.x, p, q, ps, s.e, rfl, rfl, ⟨rfl, rfl⟩, by simp, hc.1, hq, hc.2, h1, h2.symm, Nat.le_refl _, by omega, by simp, .nil⟩
        · cases h
      · simp only [Option.bind_eq_some_iff] at h
        obtain ⟨q, h1, h2⟩ := h
        obtain ⟨R, nP, xP, pp, qq, r, e1, r1, r2, r3, r4, r5, r6, r7, r8, r9, r10, r11, r12, r13⟩ := recsP lk (lo + 1) h2
        have hx := (stepA_ws lk h1).1
        simp only [noWs, List.all_cons, Bool.and_eq_true] at r5
        have hq0 : q.2.1 = [] := by simpa [entA] using r5.1
        simp only [hq0, app_nil] at r3 r6 r9
        simp only at r10 r12
        refine ⟨⟨lo, p, n, s.x, q, s.e⟩ :: R, nP, xP, pp, qq, r, e1, by simp [r1], by simp [r2, List.range'_succ], ⟨⟨h1, fun _ _ => rfl⟩, by simp only [hq0, app_nil]; exact r3⟩, ?_, r5.2, r6, r7, r8, r9, by omega, by omega, ?_, ?_⟩
        · intro a ha
          rcases List.mem_cons.1 ha with rfl | ha
          · exact hq0
          · exact r4 a ha
        · intro a ha
          rcases List.mem_cons.1 ha with rfl | ha
          · exact ⟨Nat.le_refl _, r10, by simp⟩
          · obtain ⟨a1, a2, a3⟩ := r12 a ha
            exact ⟨by omega, a2, by omega⟩
        · exact List.pairwise_cons.2 ⟨fun a ha => (r12 a ha).1, r13⟩

end
end Pi


/- Open order, on the machine. -/
namespace Pi
open Go (IntKind TypeId FuncId Fn BinOp UnOp LoopState Value Addr World Program undef Operand Sem Result Frame Item step lone Steps step_lone_go stepG)

section
variable {P : Program} {C : Ctx} {n : Nat}

/-- How a call of open order ends. -/
def QR.cr (q : QR) : CR := if q.pan then .pan q.v else .ret q.v
theorem callQ_sound (lk : Lnk P C) (ih : Sound P C n) {f : V} {args : List V} {m : Sto} {x : Nat} {q : QR} (he : callQ C (n + 1) f args m x = some q) {g : G} {w : World} {f' : Value} {args' : Array Value}
    (hf : VR g.ro f g.rho f') (ha : PR g.ro args g.rho args'.toList) (hl : args.length = args'.size) (hw : WR P g m w) (hx : ∀ l, x ≤ l → l < q.x → g.rho l = none) :
    ∃ nx, (callM f' args').run P w = .ok nx w ∧ isFrame nx ∧ ∀ fr cs, ∃ g' w', GE g g' ∧ WR P g' (m.app q.ws) w' ∧ (∀ l, ¬(x ≤ l ∧ l < q.x) → g'.rho l = g.rho l) ∧ WB w w' ∧
        Handed P g' (lone (frameOf P nx) (fr :: cs) w) fr cs w' q.cr := by
  unfold callQ at he
  simp only at he
  split at he
  · rename_i gg first cap
    simp only [VR] at hf
    obtain ⟨f2, a', c', rfl, hfr2, e1, e2, e3, e4⟩ := hf
    replace hfr2 : f2 = .func gg := hfr2
    subst hfr2
    have hpr : PR g.ro (first ++ args ++ cap) g.rho (a' ++ args' ++ c').toList := by
      have h1 := e3.append (by simpa using e1) ha
      have h2 := h1.append (by simp; omega) e4
      simpa using h2
    have hlen : (first ++ args ++ cap).length = (a' ++ args' ++ c').size := by simp; omega
    split at he
    · rename_i h hprim
      simp only [Option.map_eq_some_iff] at he
      obtain ⟨⟨v, ws⟩, h1, rfl⟩ := he
      obtain ⟨⟨fn, p1, p2, p3⟩, _, hp⟩ := lk.prim _ _ hprim
      have hxx := hx x (Nat.le_refl _) (by simp)
      have hrun := hp h1 hpr hlen hw hxx (hw.notThere hxx)
      refine ⟨.enter gg (a' ++ args' ++ c'), callM_func p1 p2 p3 _ _ _ _, trivial, fun fr cs => ?_⟩
      obtain ⟨v', w', h', q1, q2, q3, q4, q5, q6⟩ := hrun fr cs
      refine ⟨h', w', q1, q4, fun l hl => ?_, q5, v', q3, q6⟩
      exact q2 l (by simp only at hl; omega)
    · split at he
      · simp only [Option.bind_eq_some_iff] at he
        obtain ⟨a, hz, h0⟩ := he
        split at h0
        · split at h0
          · cases h0
          · rename_i hk
            simp only [Bool.or_eq_true, Bool.not_eq_true', not_or, Bool.not_eq_false] at hk
            simp only [Option.bind_eq_some_iff] at h0
            obtain ⟨r, h1, h2⟩ := h0
            obtain ⟨cr, m1, x1, rv1, rfl, r1, r2, r3, rfl⟩ := reachR_some h2
            obtain ⟨fn, p1, p2, p3⟩ := enter_known lk h1
            refine ⟨.enter gg (a' ++ args' ++ c'), callM_func p1 p2 p3 _ _ _ _, trivial, fun fr cs => ?_⟩
            obtain ⟨g', w1, k1, k2, k3, k4, k5⟩ := reach_call ih (fun l hl => by rcases freezeL_there hz l hl with ⟨_, _, h⟩ | ⟨_, _, _, h⟩ | ⟨_, h⟩ <;> exact ⟨_, h⟩) hk.2 h1 hpr hlen hw hx r1 r2 r3 fr cs
            refine ⟨g', w1, k1, k2, k3, k4, ?_⟩
            have e : QR.cr ⟨cr.val, (a.2.map fun l => (l, m1 l)) ++ freshWs m1 x (x1 - x), ((a.2.map fun l => (l, m1 l)) ++ freshWs m1 x (x1 - x)).map Prod.fst, x + (x1 - x), cr.isPan⟩ = cr := by cases cr <;> rfl
            rw [e]
            exact k5
        · rename_i hn
          have hn1 : a.2 = [] := Classical.byContradiction fun h => hn (.inl h)
          simp only [Option.bind_eq_some_iff] at h0
          obtain ⟨⟨cr1, m1, x1, rv1⟩, h1, h2⟩ := h0
          obtain ⟨fn, p1, p2, p3⟩ := enter_known lk h1
          cases cr1 with
          | pan v => cases h2
          | ret v =>
            simp only at h2
            split at h2
            · rename_i hc
              simp only [Option.some.injEq] at h2
              subst h2
              refine ⟨.enter gg (a' ++ args' ++ c'), callM_func p1 p2 p3 _ _ _ _, trivial, fun fr cs => ?_⟩
              obtain ⟨g', w1, k1, k2, k3, k4, k5⟩ := fresh_call ih hz hn1 h1 hpr hlen hw hx hc.1 hc.2 fr cs
              exact ⟨g', w1, k1, k2, k3, k4, k5⟩
            · cases h2
      · simp only [Option.bind_eq_some_iff] at he
        obtain ⟨a, hz, ⟨cr1, m1, x1, rv1⟩, h1, h2⟩ := he
        obtain ⟨fn, p1, p2, p3⟩ := enter_known lk h1
        cases cr1 with
        | pan v => cases h2
        | ret v =>
          simp only [Option.bind_eq_some_iff] at h2
          obtain ⟨r, h3, h4⟩ := h2
          simp only [Option.some.injEq] at h4
          subst h4
          refine ⟨.enter gg (a' ++ args' ++ c'), callM_func p1 p2 p3 _ _ _ _, trivial, fun fr cs => ?_⟩
          obtain ⟨w1, k1, k2, k3, g', k4, k5, k6, k7⟩ := closed_call ih hz h1 hpr hlen hw (.inl rfl) h3 fr cs
          by_cases hsc : r.1.scal = true
          · exact ⟨g, w1, GE.refl _, by simp only [app_mkWs]; rw [if_pos hsc]; exact k2, fun _ _ => rfl, k1, k3 hsc⟩
          · exact ⟨g', w1, k5, by simp only [app_mkWs]; rw [if_neg hsc]; exact k6, fun l _ => by rw [k4], k1, k7⟩
  · cases he

theorem stepA_sound (lk : Lnk P C) (ih : ∀ k, k < n → Sound P C k) {p : POper} {e : Env} {m : Sto} {x : Nat} {q : V × Ws × List Nat × Nat} (h : stepA C n p e m x = some q) {N : Nat} {ops : Array Go.Oper} {i : Nat} {o : Go.Oper}
    (ho : ops[i]? = some o) (hco : compOper P N ops o = some p) {g : G} {tm : Array Value} {w : World} (he : ER g e tm) (hw : WR P g m w) (hx : ∀ l, x ≤ l → l < q.2.2.2 → g.rho l = none)
    (b : B) (df : List Go.Deferred) (cs : List Frame) (rest : List Nat) (k : List Item) :
    p.d = o.dst ∧ p.d.all (· < N) = true ∧ ∃ g' v' w', GE g g' ∧ (∀ l, ¬(x ≤ l ∧ l < q.2.2.2) → g'.rho l = g.rho l) ∧ WR P g' (m.app q.2.1) w' ∧ WB w w' ∧ VR g'.ro q.1 g'.rho v' ∧
      Steps P (lone (b.at tm df (.inRegion ops (i :: rest) :: k)) cs w) (lone (b.at (putT tm o.dst v') df (.inRegion ops rest :: k)) cs w') := by
  unfold compOper at hco
  split at hco
  · rename_i hdst
    simp only [Option.map_eq_some_iff] at hco
    obtain ⟨gd, hgd, rfl⟩ := hco
    refine ⟨rfl, hdst, ?_⟩
    unfold stepA at h
    simp only at h
    cases hwt : wanted gd e with
    | none => rw [hwt] at h; cases h
    | some c =>
      rw [hwt] at h
      have hwd := wanted_ok he hgd hwt
      cases c with
      | false =>
        simp only [Option.some.injEq] at h
        subst h
        exact ⟨g, undef, w, GE.refl _, fun _ _ => rfl, by rw [app_nil]; exact hw, WB.refl _, by simp only [VR]; exact ⟨#[], rfl, rfl, trivial⟩, .one (s_op_skip ho hwd)⟩
      | true =>
        simp only at h
        cases hpo : compOp P o.op with
        | none =>
          rw [hpo] at h
          simp [opD] at h
        | some po =>
          rw [hpo] at h
          simp only [Option.getD_some] at h
          have plain : ∀ {v : V} {ws : Ws}, opD po e m x = some (v, ws) → (∀ c, o.op ≠ .defer c) → g.rho x = none →
              ∃ g' v' w', GE g g' ∧ (∀ l, l ≠ x → g'.rho l = g.rho l) ∧ WR P g' (m.app ws) w' ∧ WB w w' ∧ VR g'.ro v g'.rho v' ∧
                Steps P (lone (b.at tm df (.inRegion ops (i :: rest) :: k)) cs w) (lone (b.at (putT tm o.dst v') df (.inRegion ops rest :: k)) cs w') := by
            intro v ws hop hnd hfx
            obtain ⟨v', w1, h', h1, h2, h3, h4, h5, h6⟩ := opD_sound hw hfx he hpo hop rfl
            exact ⟨{ g with rho := h' }, v', w1, GE.ofRho h2, h3, h5, h6, h4, .one (s_op ho hwd (.inr hnd) h1)⟩
          have nodefer : (∀ f l, po ≠ .df f l) → ∀ c, o.op ≠ .defer c := by
            intro hnd c hc
            rw [hc] at hpo
            simp only [compOp, unsf, compOp0] at hpo
            split at hpo
            · simp only [Option.bind_eq_some_iff, Option.map_eq_some_iff] at hpo
              obtain ⟨_, _, _, _, rfl⟩ := hpo
              exact hnd _ _ rfl
            · cases hpo
          cases po
          case ca f args =>
            obtain ⟨c, fo, hc1, hc2, hc3, hc4⟩ := comp_ca hpo
            simp only [Option.bind_eq_some_iff] at h
            obtain ⟨y, h1, h2⟩ := h
            split at h2
            · cases h2
            rename_i hpan
            simp only [Option.some.injEq] at h2
            subst h2
            cases n with
            | zero => simp [callQ] at h1
            | succ n =>
              obtain ⟨ha1, ha2⟩ := opds_ok he hc4
              obtain ⟨nx, q1, q2, q3⟩ := callQ_sound lk (ih n (by omega)) h1 (opd_ok he hc3) (args' := c.args.map (evT tm)) (by simpa using ha1) (by simp [ha2]) hw hx
              obtain ⟨g2, w2, ge2, wr2, old2, wb2, hand⟩ := q3 (b.at tm df (.inRegion ops (i :: rest) :: k)) cs
              have hnd : ∀ c, o.op ≠ .defer c := by intro c'; rw [hc1]; simp
              have start : Steps P (lone (b.at tm df (.inRegion ops (i :: rest) :: k)) cs w) (lone (frameOf P nx) (b.at tm df (.inRegion ops (i :: rest) :: k) :: cs) w) := by
                rw [← run_call hc1 hc2] at q1
                cases nx <;> simp only [isFrame] at q2
                · exact .one (s_op_enter ho hwd (.inr hnd) q1)
                · exact .one (s_op_round ho hwd (.inr hnd) q1)
              rw [show y.cr = .ret y.v by unfold QR.cr; rw [if_neg hpan]] at hand
              obtain ⟨v', e1, e2⟩ := hand
              have hfin : (b.at tm df (.inRegion ops (i :: rest) :: k)).finish v' = b.at (putT tm o.dst v') df (.inRegion ops rest :: k) := finish_at ho v'
              rw [hfin] at e2
              exact ⟨g2, v', w2, ge2, old2, wr2, wb2, e1, start.trans e2⟩
          case pa y => cases h
          case df f l => cases h
          case rc => cases h
          all_goals
            simp only [Option.map_eq_some_iff] at h
            obtain ⟨⟨v, ws⟩, h1, rfl⟩ := h
            obtain ⟨g2, v', w2, z1, z2, z3, z4, z5, z6⟩ := plain h1 (nodefer (by intro _ _ hh; cases hh)) (hx x (Nat.le_refl _) (by simp))
            exact ⟨g2, v', w2, z1, fun l hl => z2 l (fun e => hl (by subst e; simp)), z3, z4, z5, z6⟩
  · cases hco

theorem stepP_sound (lk : Lnk P C) (ih : ∀ k, k < n → Sound P C k) {p : POper} {e : Env} {m : Sto} {x : Nat} {q : QR} (h : stepP C n p e m x = some q) {N : Nat} {ops : Array Go.Oper} {i : Nat} {o : Go.Oper}
    (ho : ops[i]? = some o) (hco : compOper P N ops o = some p) {g : G} {tm : Array Value} {w : World} (he : ER g e tm) (hw : WR P g m w) (hx : ∀ l, x ≤ l → l < q.x → g.rho l = none)
    (b : B) (df : List Go.Deferred) (cs : List Frame) (rest : List Nat) (k : List Item) :
    ∃ g' v' w', GE g g' ∧ (∀ l, ¬(x ≤ l ∧ l < q.x) → g'.rho l = g.rho l) ∧ WR P g' (m.app q.ws) w' ∧ WB w w' ∧ VR g'.ro q.v g'.rho v' ∧
      Steps P (lone (b.at tm df (.inRegion ops (i :: rest) :: k)) cs w) (lone { b.at tm df (.inRegion ops (i :: rest) :: k) with mode := .panicking [{ v := v', recovered := false }] } cs w') := by
  unfold compOper at hco
  split at hco
  · simp only [Option.map_eq_some_iff] at hco
    obtain ⟨gd, hgd, rfl⟩ := hco
    unfold stepP at h
    simp only at h
    split at h
    · rename_i hwt
      have hwd := wanted_ok he hgd hwt
      cases hpo : compOp P o.op with
      | none => rw [hpo] at h; simp at h
      | some po =>
        rw [hpo] at h
        simp only [Option.getD_some] at h
        split at h
        · rename_i f args
          obtain ⟨c, fo, hc1, hc2, hc3, hc4⟩ := comp_ca hpo
          simp only [Option.bind_eq_some_iff] at h
          obtain ⟨y, h1, h2⟩ := h
          split at h2
          · rename_i hpan
            simp only [Option.some.injEq] at h2
            subst h2
            cases n with
            | zero => simp [callQ] at h1
            | succ n =>
              obtain ⟨ha1, ha2⟩ := opds_ok he hc4
              obtain ⟨nx, q1, q2, q3⟩ := callQ_sound lk (ih n (by omega)) h1 (opd_ok he hc3) (args' := c.args.map (evT tm)) (by simpa using ha1) (by simp [ha2]) hw hx
              obtain ⟨g2, w2, ge2, wr2, old2, wb2, hand⟩ := q3 (b.at tm df (.inRegion ops (i :: rest) :: k)) cs
              have hnd : ∀ c, o.op ≠ .defer c := by intro c'; rw [hc1]; simp
              have start : Steps P (lone (b.at tm df (.inRegion ops (i :: rest) :: k)) cs w) (lone (frameOf P nx) (b.at tm df (.inRegion ops (i :: rest) :: k) :: cs) w) := by
                rw [← run_call hc1 hc2] at q1
                cases nx <;> simp only [isFrame] at q2
                · exact .one (s_op_enter ho hwd (.inr hnd) q1)
                · exact .one (s_op_round ho hwd (.inr hnd) q1)
              rw [show y.cr = .pan y.v by unfold QR.cr; rw [if_pos hpan]] at hand
              obtain ⟨v', e1, e2⟩ := hand
              exact ⟨g2, v', w2, ge2, old2, wr2, wb2, e1, start.trans e2⟩
          · cases h2
        · cases h
    · cases h
  · cases hco

/-- In any order: what is left to be done, and what the machine then comes to. -/
theorem any_go (lk : Lnk P C) (ih : ∀ k, k < n → Sound P C k) {N : Nat} {ops : Array Go.Oper} {b : B} {df : List Go.Deferred} {cs : List Frame} {rest : List Nat} {k : List Item} {e' : Env} {m' : Sto} :
    ∀ {sch : List Nat} {R : List Rec} {e : Env} {m : Sto}, sch.Perm (R.map Rec.k) → sch.Nodup → RunL C R e m e' m' → (∀ r ∈ R, r.n ≤ n ∧ ∃ o, ops[r.k]? = some o ∧ compOper P N ops o = some r.p) →
      R.Pairwise (fun a b => ((Go.Region.before ops).getD b.k 0).testBit a.k = true ∨ Apart C a b) → sch.Pairwise (fun i j => ((Go.Region.before ops).getD i 0).testBit j = false) →
      R.Pairwise (fun a b => a.q.2.2.2 ≤ b.x) →
      ∀ {g : G} {tm : Array Value} {w : World}, ER g e tm → N ≤ tm.size → WR P g m w → (∀ r ∈ R, ∀ l, r.x ≤ l → l < r.q.2.2.2 → g.rho l = none) →
      ∃ g' tm' w', GE g g' ∧ (∀ l, (∀ r ∈ R, ¬(r.x ≤ l ∧ l < r.q.2.2.2)) → g'.rho l = g.rho l) ∧ ER g' e' tm' ∧ N ≤ tm'.size ∧ WR P g' m' w' ∧ WB w w' ∧
        Steps P (lone (b.at tm df (.inRegion ops (sch ++ rest) :: k)) cs w) (lone (b.at tm' df (.inRegion ops rest :: k)) cs w') := by
  intro sch
  induction sch with
  | nil =>
    intro R e m hp hn hr hk hap ho hx g tm w her hs hw hf
    have : R = [] := by
      have := hp.length_eq
      simp at this
      exact List.eq_nil_of_length_eq_zero this.symm
    subst this
    obtain ⟨rfl, rfl⟩ := hr
    exact ⟨g, tm, w, GE.refl _, fun _ _ => rfl, her, hs, hw, WB.refl _, .refl _ _⟩
  | cons i sch IH =>
    intro R e m hp hn hr hk hap ho hx g tm w her hs hw hf
    have hin : i ∈ R.map Rec.k := hp.subset (List.mem_cons_self)
    obtain ⟨r, hrR, hri⟩ := List.mem_map.1 hin
    obtain ⟨A, Bs, hR⟩ := List.append_of_mem hrR
    subst hR
    subst hri
    -- what is left
    have hp2 : sch.Perm ((A ++ Bs).map Rec.k) := by
      have h1 : ((A ++ r :: Bs).map Rec.k).Perm (r.k :: (A ++ Bs).map Rec.k) := by
        simp only [List.map_append, List.map_cons]
        exact List.perm_middle
      exact (List.perm_cons _).1 (hp.trans h1)
    have hn2 := (List.nodup_cons.1 hn)
    have ho2 := List.pairwise_cons.1 ho
    have hapr : ∀ a ∈ A, Apart C a r := by
      intro a ha
      have h1 := (List.pairwise_append.1 hap).2.2 a ha r (List.mem_cons_self)
      rcases h1 with h1 | h1
      · have h2 : a.k ∈ sch := hp2.symm.subset (List.mem_map.2 ⟨a, List.mem_append.2 (.inl ha), rfl⟩)
        rw [ho2.1 _ h2] at h1
        cases h1
      · exact h1
    obtain ⟨h1, h2⟩ := pull lk hr hapr
    obtain ⟨hnr, o, ho1, hco⟩ := hk r (List.mem_append.2 (.inr (List.mem_cons_self)))
    obtain ⟨hd, hdN, g1, v1, w1, ge1, old1, wr1, wb1, vr1, st1⟩ := stepA_sound lk (fun k hk => ih k (by omega)) h1.1 ho1 hco her hw (hf r (List.mem_append.2 (.inr (List.mem_cons_self)))) b df cs (sch ++ rest) k
    have her1 : ER g1 (updE e r.p.d r.q.1) (putT tm o.dst v1) := by
      rw [← hd]
      cases hdd : r.p.d with
      | none => exact her.up ge1
      | some t =>
        rw [hdd] at hdN
        exact (her.up ge1).put hs (by simpa using hdN) vr1
    have hs1 : N ≤ (putT tm o.dst v1).size := by
      cases o.dst <;> simp [putT] <;> exact hs
    -- the others' numbers
    have mem2 : ∀ a, a ∈ A ++ Bs → a ∈ A ++ r :: Bs := by
      intro a ha
      rcases List.mem_append.1 ha with h | h
      · exact List.mem_append.2 (.inl h)
      · exact List.mem_append.2 (.inr (List.mem_cons_of_mem _ h))
    have sub : (A ++ Bs).Sublist (A ++ r :: Bs) := List.Sublist.append (List.Sublist.refl _) (List.sublist_cons_self _ _)
    have hf1 : ∀ a ∈ A ++ Bs, ∀ l, a.x ≤ l → l < a.q.2.2.2 → g1.rho l = none := by
      intro a ha l hl1 hl2
      rw [old1 l]
      · exact hf a (mem2 a ha) l hl1 hl2
      · intro hh
        rcases List.mem_append.1 ha with h | h
        · have := (List.pairwise_append.1 hx).2.2 a h r (List.mem_cons_self)
          omega
        · have := (List.pairwise_cons.1 (List.pairwise_append.1 hx).2.1).1 a h
          omega
    obtain ⟨g2, tm2, w2, ge2, old2, er2, s2, wr2, wb2, st2⟩ := IH hp2 hn2.2 h2 (fun a ha => hk a (mem2 a ha)) (hap.sublist sub) ho2.2 (hx.sublist sub) her1 hs1 wr1 hf1
    refine ⟨g2, tm2, w2, ge1.trans ge2, fun l hl => ?_, er2, s2, wr2, wb1.trans wb2, ?_⟩
    · rw [old2 l (fun a ha => hl a (mem2 a ha)), old1 l (hl r (List.mem_append.2 (.inr (List.mem_cons_self))))]
    · exact st1.trans st2

theorem runL_un (lk : Lnk P C) {d : Option Nat} : ∀ {R : List Rec} {e e' : Env} {m m' : Sto}, RunL C R e m e' m' → (∀ a ∈ R, (∀ t, d = some t → t ∉ a.p.reads) ∧ (∀ t, a.p.d = some t → d ≠ some t)) → RunL C R (updE e d .un) m (updE e' d .un) m'
  | [], e, e', m, m', h, _ => by
    obtain ⟨rfl, rfl⟩ := h
    exact ⟨rfl, rfl⟩
  | r :: rs, e, e', m, m', ⟨⟨h1, r1⟩, h2⟩, hh => by
    obtain ⟨u1, u2⟩ := hh r List.mem_cons_self
    have eo : ∀ t ∈ r.p.reads, updE e d .un t = e t := fun t ht => updE_other (fun h => u1 t h ht)
    have h3 := runL_un lk (d := d) h2 (fun a ha => hh a (List.mem_cons_of_mem _ ha))
    rw [updE_comm (d := r.p.d) u2] at h3
    exact ⟨⟨stepA_same lk h1 eo (fun _ _ => rfl), fun t ht => (eo t ht).trans (r1 t ht)⟩, h3⟩
/-- An operation behind a call that ends in panic: it waits, or makes but a new thing. -/
def Late (P : Program) (N : Nat) (ops : Array Go.Oper) (R : List Rec) (kP : Nat) (p : POper) (j : Nat) : Prop :=
  ((Go.Region.before ops).getD j 0).testBit kP = true ∨ ∃ o d z, ops[j]? = some o ∧ compOper P N ops o = some ⟨d, .al z, none⟩ ∧ slotsMeet p ⟨d, .al z, none⟩ = false ∧ ∀ a ∈ R, ((Go.Region.before ops).getD j 0).testBit a.k = true ∨ slotsMeet a.p ⟨d, .al z, none⟩ = false
theorem Late.sub {P : Program} {N : Nat} {ops : Array Go.Oper} {R R' : List Rec} {kP : Nat} {p : POper} {j : Nat} (h : Late P N ops R kP p j) (hs : ∀ a ∈ R', a ∈ R) : Late P N ops R' kP p j := by
  rcases h with h | ⟨o, d, z, h1, h2, h3, h4⟩
  · exact .inl h
  · exact .inr ⟨o, d, z, h1, h2, h3, fun a ha => h4 a (hs a ha)⟩
/-- In any order, up to a call that ends in panic. -/
theorem any_goP (lk : Lnk P C) (ih : ∀ k, k < n → Sound P C k) {N : Nat} {ops : Array Go.Oper} {b : B} {df : List Go.Deferred} {cs : List Frame} {rest : List Nat} {k : List Item} {m : Sto} {kP nP xP : Nat} {p : POper} {q : QR}
    (hnP : nP ≤ n) (hokP : ∃ o, ops[kP]? = some o ∧ compOper P N ops o = some p) :
    ∀ {sch : List Nat} {R : List Rec} {e e' : Env} {L : List Nat}, (∀ j ∈ L, Late P N ops R kP p j) → sch.Perm (R.map Rec.k ++ kP :: L) → sch.Nodup → RunL C R e m e' m → (∀ a ∈ R, a.q.2.1 = []) → stepP C nP p e' m xP = some q →
      (∀ r ∈ R, r.n ≤ n ∧ ∃ o, ops[r.k]? = some o ∧ compOper P N ops o = some r.p) →
      R.Pairwise (fun a b => ((Go.Region.before ops).getD b.k 0).testBit a.k = true ∨ slotsMeet a.p b.p = false) → (∀ a ∈ R, ((Go.Region.before ops).getD kP 0).testBit a.k = true ∨ slotsMeet a.p p = false) →
      sch.Pairwise (fun i j => ((Go.Region.before ops).getD i 0).testBit j = false) → R.Pairwise (fun a b => a.q.2.2.2 ≤ b.x) → (∀ a ∈ R, a.q.2.2.2 ≤ xP) →
      ∀ {g : G} {tm : Array Value} {w : World}, ER g e tm → N ≤ tm.size → WR P g m w → (∀ r ∈ R, ∀ l, r.x ≤ l → l < r.q.2.2.2 → g.rho l = none) → (∀ l, xP ≤ l → l < q.x + L.length → g.rho l = none) →
      ∃ g' tm' w' v' k2, GE g g' ∧ (∀ l, (∀ r ∈ R, ¬(r.x ≤ l ∧ l < r.q.2.2.2)) → ¬(xP ≤ l ∧ l < q.x + L.length) → g'.rho l = g.rho l) ∧ N ≤ tm'.size ∧ WR P g' (m.app q.ws) w' ∧ WB w w' ∧ VR g'.ro q.v g'.rho v' ∧
        Steps P (lone (b.at tm df (.inRegion ops (sch ++ rest) :: k)) cs w) (lone { b.at tm' df k2 with mode := .panicking [{ v := v', recovered := false }] } cs w') := by
  intro sch
  induction sch with
  | nil =>
    intro R e e' L hL hp
    have := hp.length_eq
    simp at this
  | cons i sch IH =>
    intro R e e' L hL hp hn hr hws hP hk hap hapP ho hx hxP g tm w her hs hw hf hfP
    have ho2 := List.pairwise_cons.1 ho
    have hn2 := List.nodup_cons.1 hn
    have hin : i ∈ R.map Rec.k ++ kP :: L := hp.subset (List.mem_cons_self)
    have hkP : kP ∈ i :: sch := hp.symm.subset (List.mem_append.2 (.inr (List.mem_cons_self)))
    by_cases hiP : i = kP
    · subst hiP
      -- the call
      have hsl : ∀ a ∈ R, slotsMeet a.p p = false := by
        intro a ha
        rcases hapP a ha with h1 | h1
        · have h2 : a.k ∈ i :: sch := hp.symm.subset (List.mem_append.2 (.inl (List.mem_map.2 ⟨a, ha, rfl⟩)))
          rcases List.mem_cons.1 h2 with h3 | h3
          · exfalso
            have h4 := hp.nodup_iff.1 hn
            have h5 := (List.nodup_append.1 h4).2.2 a.k (List.mem_map.2 ⟨a, ha, rfl⟩) i (List.mem_cons_self)
            exact h5 h3
          · rw [ho2.1 _ h3] at h1
            cases h1
        · exact h1
      have same : ∀ {R : List Rec} {e : Env} {m m' : Sto}, RunL C R e m e' m' → (∀ a ∈ R, slotsMeet a.p p = false) → ∀ t ∈ p.reads, e t = e' t := by
        intro R
        induction R with
        | nil => intro e m m' h _ t _; rw [h.1]
        | cons a R IHR =>
          intro e m m' h hh t ht
          rw [← IHR h.2 (fun a' ha' => hh a' (List.mem_cons_of_mem _ ha')) t ht]
          exact (updE_other (fun hd => ((meet_off (hh a (List.mem_cons_self))).1 t hd).1 ht)).symm
      have h1 := stepP_same lk hP (same hr hsl)
      obtain ⟨o, ho1, hco⟩ := hokP
      obtain ⟨g1, v1, w1, ge1, old1, wr1, wb1, vr1, st1⟩ := stepP_sound lk (fun k hk => ih k (by omega)) h1 ho1 hco her hw (fun l h1 h2 => hfP l h1 (by omega)) b df cs (sch ++ rest) k
      exact ⟨g1, tm, w1, v1, _, ge1, fun l _ hl => old1 l (fun hh => hl ⟨hh.1, by omega⟩), hs, wr1, wb1, vr1, st1⟩
    · have hkP' : kP ∈ sch := by
        rcases List.mem_cons.1 hkP with h | h
        · exact absurd h.symm hiP
        · exact h
      have hqx := (stepP_ws lk hP).1
      by_cases hiL : i ∈ L
      · -- a new thing
        rcases hL i hiL with h1 | ⟨o, d, z, ho1, hco, hm1, hm2⟩
        · rw [ho2.1 _ hkP'] at h1
          cases h1
        have hpos : 0 < L.length := List.length_pos_of_mem hiL
        have hlen : (L.erase i).length = L.length - 1 := List.length_erase_of_mem hiL
        have hst : stepA C n ⟨d, .al z, none⟩ e m (q.x + (L.length - 1)) = some (.p (q.x + (L.length - 1)) 0, [(q.x + (L.length - 1), some (.cells z false))], POp.tch (.al z) e (q.x + (L.length - 1)), q.x + (L.length - 1) + 1) := rfl
        obtain ⟨hd, hdN, g1, v1, w1, ge1, old1, wr1, wb1, vr1, st1⟩ := stepA_sound lk ih hst ho1 hco her hw (fun l h1 h2 => hfP l (by omega) (by simp only at h2; omega)) b df cs (sch ++ rest) k
        simp only at hd hdN old1
        have hms : m (q.x + (L.length - 1)) = none := by
          cases hh : m (q.x + (L.length - 1)) with
          | none => rfl
          | some o' =>
            obtain ⟨_, _, h3, _⟩ := hw.obj _ _ hh
            rw [hfP _ (by omega) (by omega)] at h3
            cases h3
        have wr2 : WR P g1 m w1 := by
          have h3 := wr1.drop (q.x + (L.length - 1))
          have e1 : (m.app [(q.x + (L.length - 1), some (.cells z false))]).set (q.x + (L.length - 1)) none = m := by
            funext l
            simp only [Sto.app, List.foldl_cons, List.foldl_nil, Sto.set]
            split
            · rename_i h; subst h; exact hms.symm
            · rfl
          rw [e1] at h3
          exact h3
        have her1 : ER g1 (updE e d .un) (putT tm o.dst v1) := by
          rw [← hd]
          cases hdd : d with
          | none => exact her.up ge1
          | some t =>
            rw [hdd] at hdN
            exact (her.up ge1).put hs (by simpa using hdN) (by simp [VR])
        have hs1 : N ≤ (putT tm o.dst v1).size := by
          cases o.dst <;> simp [putT] <;> exact hs
        have hpe : (R.map Rec.k ++ kP :: L).Perm (i :: (R.map Rec.k ++ kP :: L.erase i)) := by
          have h3 : (kP :: L).Perm (i :: kP :: L.erase i) := ((List.perm_cons_erase hiL).cons kP).trans (List.Perm.swap i kP _)
          exact (List.Perm.append_left _ h3).trans List.perm_middle
        have hp2 : sch.Perm (R.map Rec.k ++ kP :: L.erase i) := (List.perm_cons _).1 (hp.trans hpe)
        have hin2 : ∀ a ∈ R, a.k ∈ sch := fun a ha => hp2.symm.subset (List.mem_append.2 (.inl (List.mem_map.2 ⟨a, ha, rfl⟩)))
        have hmR : ∀ a ∈ R, slotsMeet a.p ⟨d, .al z, none⟩ = false := by
          intro a ha
          rcases hm2 a ha with h3 | h3
          · rw [ho2.1 _ (hin2 a ha)] at h3; cases h3
          · exact h3
        obtain ⟨g2, tm2, w2, v2, k2, ge2, old2, s2, wr3, wb2, vr2, st2⟩ := IH (fun j hj => hL j (List.mem_of_mem_erase hj)) hp2 hn2.2
          (runL_un lk hr (fun a ha => ⟨fun t ht => (meet_off (hmR a ha)).2 t ht, fun t ht => ((meet_off (hmR a ha)).1 t ht).2⟩)) hws
          (stepP_same lk hP (fun t ht => updE_other (fun hh => (meet_off hm1).2 t hh ht))) hk hap hapP ho2.2 hx hxP her1 hs1 wr2
          (fun a ha l h1 h2 => by rw [old1 l (fun hh => by have := hxP a ha; omega)]; exact hf a ha l h1 h2)
          (fun l h1 h2 => by rw [old1 l (fun hh => by omega)]; exact hfP l h1 (by omega))
        refine ⟨g2, tm2, w2, v2, k2, ge1.trans ge2, fun l hl hlP => ?_, s2, wr3, wb1.trans wb2, vr2, st1.trans st2⟩
        rw [old2 l hl (fun hh => hlP ⟨hh.1, by omega⟩), old1 l (fun hh => hlP ⟨by omega, by omega⟩)]
      have hiR : i ∈ R.map Rec.k := by
        rcases List.mem_append.1 hin with h | h
        · exact h
        · rcases List.mem_cons.1 h with h | h
          · exact absurd h hiP
          · exact absurd h hiL
      obtain ⟨r, hrR, hri⟩ := List.mem_map.1 hiR
      obtain ⟨A, Bs, hR⟩ := List.append_of_mem hrR
      subst hR
      subst hri
      have hp2 : sch.Perm ((A ++ Bs).map Rec.k ++ kP :: L) := by
        have h1 : ((A ++ r :: Bs).map Rec.k ++ kP :: L).Perm (r.k :: ((A ++ Bs).map Rec.k ++ kP :: L)) := by
          simp only [List.map_append, List.map_cons, List.append_assoc, List.cons_append]
          exact List.perm_middle
        exact (List.perm_cons _).1 (hp.trans h1)
      have hwr := hws r (List.mem_append.2 (.inr (List.mem_cons_self)))
      have hapr : ∀ a ∈ A, Apart C a r := by
        intro a ha
        refine ⟨?_, .inl fun _ => ⟨fun u hu => ?_, fun u hu => ?_⟩⟩
        · have h1 := (List.pairwise_append.1 hap).2.2 a ha r (List.mem_cons_self)
          rcases h1 with h1 | h1
          · have h2 : a.k ∈ sch := hp2.symm.subset (List.mem_append.2 (.inl (List.mem_map.2 ⟨a, List.mem_append.2 (.inl ha), rfl⟩)))
            rw [ho2.1 _ h2] at h1
            cases h1
          · exact h1
        · rw [hws a (List.mem_append.2 (.inl ha))] at hu; cases hu
        · rw [hwr] at hu; cases hu
      obtain ⟨h1, h2⟩ := pull lk hr hapr
      rw [hwr, app_nil] at h2
      obtain ⟨hnr, o, ho1, hco⟩ := hk r (List.mem_append.2 (.inr (List.mem_cons_self)))
      obtain ⟨hd, hdN, g1, v1, w1, ge1, old1, wr1, wb1, vr1, st1⟩ := stepA_sound lk (fun k hk => ih k (by omega)) h1.1 ho1 hco her hw (hf r (List.mem_append.2 (.inr (List.mem_cons_self)))) b df cs (sch ++ rest) k
      rw [hwr, app_nil] at wr1
      have her1 : ER g1 (updE e r.p.d r.q.1) (putT tm o.dst v1) := by
        rw [← hd]
        cases hdd : r.p.d with
        | none => exact her.up ge1
        | some t =>
          rw [hdd] at hdN
          exact (her.up ge1).put hs (by simpa using hdN) vr1
      have hs1 : N ≤ (putT tm o.dst v1).size := by
        cases o.dst <;> simp [putT] <;> exact hs
      have mem2 : ∀ a, a ∈ A ++ Bs → a ∈ A ++ r :: Bs := by
        intro a ha
        rcases List.mem_append.1 ha with h | h
        · exact List.mem_append.2 (.inl h)
        · exact List.mem_append.2 (.inr (List.mem_cons_of_mem _ h))
      have sub : (A ++ Bs).Sublist (A ++ r :: Bs) := List.Sublist.append (List.Sublist.refl _) (List.sublist_cons_self _ _)
      have hf1 : ∀ a ∈ A ++ Bs, ∀ l, a.x ≤ l → l < a.q.2.2.2 → g1.rho l = none := by
        intro a ha l hl1 hl2
        rw [old1 l]
        · exact hf a (mem2 a ha) l hl1 hl2
        · intro hh
          rcases List.mem_append.1 ha with h | h
          · have := (List.pairwise_append.1 hx).2.2 a h r (List.mem_cons_self)
            omega
          · have := (List.pairwise_cons.1 (List.pairwise_append.1 hx).2.1).1 a h
            omega
      have hfP1 : ∀ l, xP ≤ l → l < q.x + L.length → g1.rho l = none := by
        intro l hl1 hl2
        rw [old1 l]
        · exact hfP l hl1 hl2
        · intro hh
          have := hxP r (List.mem_append.2 (.inr (List.mem_cons_self)))
          omega
      obtain ⟨g2, tm2, w2, v2, k2, ge2, old2, s2, wr2, wb2, vr2, st2⟩ := IH (fun j hj => (hL j hj).sub (fun a ha => mem2 a ha)) hp2 hn2.2 h2 (fun a ha => hws a (mem2 a ha)) hP (fun a ha => hk a (mem2 a ha)) (hap.sublist sub) (fun a ha => hapP a (mem2 a ha)) ho2.2 (hx.sublist sub) (fun a ha => hxP a (mem2 a ha)) her1 hs1 wr1 hf1 hfP1
      refine ⟨g2, tm2, w2, v2, k2, ge1.trans ge2, fun l hl hlP => ?_, s2, wr2, wb1.trans wb2, vr2, st1.trans st2⟩
      rw [old2 l (fun a ha => hl a (mem2 a ha)) hlP, old1 l (hl r (List.mem_append.2 (.inr (List.mem_cons_self))))]

end
end Pi


/- A piece of open order. -/
namespace Pi
open Go (IntKind TypeId FuncId Fn BinOp UnOp LoopState Value Addr World Program undef Operand Sem Result Frame Item step lone Steps step_lone_go stepG)

section
variable {P : Program} {C : Ctx} {n : Nat}

theorem opsR_recs {N : Nat} {ops : Array Go.Oper} : ∀ {R : List Rec}, OpsR P N ops (R.map Rec.k) (R.map Rec.p) → ∀ r ∈ R, ∃ o, ops[r.k]? = some o ∧ compOper P N ops o = some r.p
  | [], _, r, hr => by cases hr
  | a :: R, h, r, hr => by
    rcases List.mem_cons.1 hr with rfl | hr
    · exact h.1
    · exact opsR_recs h.2 r hr

mutual
theorem eqvV_eq : ∀ {a b : V}, eqvV a b = true → a = b
  | a, b, h => by
    cases a with
    | b x => cases b <;> simp only [eqvV, beq_iff_eq, Bool.false_eq_true] at h <;> first | exact h.elim | (subst h; rfl)
    | i k n => cases b <;> simp only [eqvV, Bool.and_eq_true, decide_eq_true_eq, Bool.false_eq_true] at h <;> first | exact h.elim | (obtain ⟨rfl, rfl⟩ := h; rfl)
    | s x => cases b <;> simp only [eqvV, decide_eq_true_eq, Bool.false_eq_true] at h <;> first | exact h.elim | (subst h; rfl)
    | np => cases b <;> simp only [eqvV, Bool.false_eq_true] at h <;> first | exact h.elim | rfl
    | p l o => cases b <;> simp only [eqvV, Bool.and_eq_true, decide_eq_true_eq, Bool.false_eq_true] at h <;> first | exact h.elim | (obtain ⟨rfl, rfl⟩ := h; rfl)
    | rp cs => cases b <;> simp only [eqvV, Bool.false_eq_true] at h <;> first | exact h.elim | rw [eqvL_eq h]
    | ns => cases b <;> simp only [eqvV, Bool.false_eq_true] at h <;> first | exact h.elim | rfl
    | sl cs n => cases b <;> simp only [eqvV, Bool.and_eq_true, decide_eq_true_eq, Bool.false_eq_true] at h <;> first | exact h.elim | (obtain ⟨rfl, h⟩ := h; rw [eqvL_eq h])
    | ms l o n k => cases b <;> simp only [eqvV, Bool.and_eq_true, decide_eq_true_eq, Bool.false_eq_true] at h <;> first | exact h.elim | (obtain ⟨⟨⟨rfl, rfl⟩, rfl⟩, rfl⟩ := h; rfl)
    | nm => cases b <;> simp only [eqvV, Bool.false_eq_true] at h <;> first | exact h.elim | rfl
    | mp l => cases b <;> simp only [eqvV, decide_eq_true_eq, Bool.false_eq_true] at h <;> first | exact h.elim | (subst h; rfl)
    | nf => cases b <;> simp only [eqvV, Bool.false_eq_true] at h <;> first | exact h.elim | rfl
    | ni => cases b <;> simp only [eqvV, Bool.false_eq_true] at h <;> first | exact h.elim | rfl
    | ag cs => cases b <;> simp only [eqvV, Bool.false_eq_true] at h <;> first | exact h.elim | rw [eqvL_eq h]
    | _ => simp [eqvV] at h
theorem eqvL_eq : ∀ {a b : List V}, eqvL a b = true → a = b
  | [], [], _ => rfl
  | [], _ :: _, h => by simp [eqvL] at h
  | _ :: _, [], h => by simp [eqvL] at h
  | a :: r, b :: s, h => by
    simp only [eqvL, Bool.and_eq_true] at h
    rw [eqvV_eq h.1, eqvL_eq h.2]
end
theorem app_some {ws : Ws} {m : Sto} {l : Nat} : m.app ws l = m l ∨ ∃ q ∈ ws, q.1 = l ∧ m.app ws l = q.2 := by
  induction ws generalizing m with
  | nil => exact .inl rfl
  | cons p ws ih =>
    rw [app_cons]
    rcases ih (m := m.set p.1 p.2) with h | ⟨q, h1, h2, h3⟩
    · by_cases e : l = p.1
      · right
        refine ⟨p, List.mem_cons_self, e.symm, ?_⟩
        rw [h, e, Sto.set_same]
      · left
        rw [h, Sto.set_ne _ _ e]
    · exact .inr ⟨q, List.mem_cons_of_mem _ h1, h2, h3⟩
def ldM (o : Option PObj) (ag : Bool) (n off : Nat) : Option (V × Ws) := match o with
  | some (.cells cs _) => (getPart ag n cs off).map fun v => (v, ([] : Ws))
  | some (.lit cs) => (getPart ag n cs off).map fun v => (v, ([] : Ws))
  | some (.tc _ cs) => (getPart ag n cs off).map fun v => (v, ([] : Ws))
  | _ => none
theorem ldM_ws {o : Option PObj} {ag : Bool} {n off : Nat} {q : V × Ws} (h : ldM o ag n off = some q) : q.2 = [] := by
  unfold ldM at h
  split at h
  all_goals first
    | (rw [Option.map_eq_some_iff] at h; obtain ⟨u, _, rfl⟩ := h; rfl)
    | cases h
theorem imm_of {C : Ctx} {a b : Rec} {m0 : Sto} (h0 : stepA C a.n a.p a.ea m0 a.x = some a.q) (h : immB (entA a.p a.ea a.q).2.2.1 (entA b.p b.ea b.q).2.2.2 = true) : Imm C a b := by
  unfold entA at h
  simp only at h
  split at h
  · rename_i hw
    unfold ldI at h
    split at h
    · rename_i ag n ad hop
      unfold immB at h
      split at h
      · rename_i l off ag' n' v hh
        simp only [Option.some.injEq, Prod.mk.injEq] at hh
        obtain ⟨e1, rfl, rfl, rfl⟩ := hh
        have key : ∀ m', stepA C a.n a.p a.ea m' a.x = (ldM (m' l) ag n off).map fun (q : V × Ws) => (q.1, q.2, a.p.o.tch a.ea a.x, a.x + 1) := by
          intro m'
          unfold stepA
          rw [hw]
          simp only [hop, opD, e1]
          rfl
        have hws : a.q.2.1 = [] := by
          rw [key] at h0
          obtain ⟨q, h1, h2⟩ := Option.map_eq_some_iff.1 h0
          rw [← h2]
          exact ldM_ws h1
        refine ⟨hws, fun m' hm' => ?_⟩
        rw [key] at hm' ⊢
        rcases app_some (ws := b.q.2.1) (m := m') (l := l) with h1 | ⟨w, h1, h2, h3⟩
        · rw [h1]; exact hm'
        · have h4 := List.all_eq_true.1 h w h1
          rw [if_pos h2] at h4
          rw [h3]
          unfold keepO at h4
          split at h4
          · rename_i cs ro hw2
            split at h4
            · rename_i u hu
              have hv := eqvV_eq h4
              obtain ⟨q, h5, h6⟩ := Option.map_eq_some_iff.1 hm'
              have hq2 := ldM_ws h5
              have hl : ldM (some (.cells cs ro)) ag n off = some (u, []) := by
                unfold ldM
                simp only [hu, Option.map_some]
              rw [hw2, hl, Option.map_some, ← h6, hq2, hv, ← h6]
            · cases h4
          · cases h4
      · cases h
    · simp [immB] at h
  · simp [immB] at h

theorem apart_of {ps : List POper} {bef : Array Nat} {lo : Nat} {prs : List (Nat × Nat)} (hp : pairsOf ps bef lo = some prs) {R : List Rec} (r1 : R.map Rec.p = ps) (r2 : R.map Rec.k = List.range' lo ps.length)
    (hst : ∀ r ∈ R, ∃ m, stepA C r.n r.p r.ea m r.x = some r.q)
    (ha : apartAll (R.map fun r => entA r.p r.ea r.q) prs = true) : R.Pairwise (fun a b => (bef.getD b.k 0).testBit a.k = true ∨ Apart C a b) := by
  have hlen : R.length = ps.length := by rw [← r1]; simp
  refine List.pairwise_iff_getElem.2 fun i j hi hj hij => ?_
  have hk : ∀ (t : Nat) (ht : t < R.length), R[t].k = lo + t := by
    intro t ht
    have h1 : (R.map Rec.k)[t]? = some R[t].k := by simp [ht]
    rw [r2] at h1
    have h2 : (List.range' lo ps.length)[t]? = some (lo + t) := by
      rw [List.getElem?_range' (by omega)]
      simp
    rw [h2] at h1
    exact (Option.some.inj h1).symm
  rw [hk i hi, hk j hj]
  by_cases hb : (bef.getD (lo + j) 0).testBit (lo + i) = true
  · exact .inl hb
  · right
    unfold pairsOf at hp
    simp only at hp
    split at hp
    · rename_i hall
      simp only [Option.some.injEq] at hp
      have hmem : (i, j) ∈ (List.range ps.length).flatMap fun j => ((List.range j).filter fun i => !(bef.getD (lo + j) 0).testBit (lo + i)).map fun i => (i, j) := by
        refine List.mem_flatMap.2 ⟨j, List.mem_range.2 (by omega), List.mem_map.2 ⟨i, List.mem_filter.2 ⟨List.mem_range.2 hij, ?_⟩, rfl⟩⟩
        simpa using hb
      have hpi : ps[i]? = some R[i].p := by rw [← r1]; simp [hi]
      have hpj : ps[j]? = some R[j].p := by rw [← r1]; simp [hj]
      refine ⟨?_, ?_⟩
      · have := List.all_eq_true.1 hall _ hmem
        simpa [meetAt, hpi, hpj] using this
      by_cases hc : R[i].p.o.cls + R[j].p.o.cls ≥ 3
      · have hin : (i, j) ∈ prs := by
          rw [← hp]
          refine List.mem_filter.2 ⟨hmem, ?_⟩
          simp only [memAt, hpi, hpj]
          simpa using hc
        have h1 := List.all_eq_true.1 ha _ hin
        simp only at h1
        have e1 : (R.map fun r => entA r.p r.ea r.q).getD i ([], [], none, []) = entA R[i].p R[i].ea R[i].q := by simp [List.getD, hi]
        have e2 : (R.map fun r => entA r.p r.ea r.q).getD j ([], [], none, []) = entA R[j].p R[j].ea R[j].q := by simp [List.getD, hj]
        rw [e1, e2] at h1
        split at h1
        · rename_i h2
          refine .inl fun _ => ?_
          simp only [apart2, entA, Bool.and_eq_true, List.all_eq_true, Bool.not_eq_true', List.contains_eq_mem, decide_eq_false_iff_not] at h2
          exact ⟨fun r hr => h2.1 r.1 (List.mem_map_of_mem hr), fun s hs => h2.2 s.1 (List.mem_map_of_mem hs)⟩
        · right
          obtain ⟨m0, hm0⟩ := hst R[i] (List.getElem_mem hi)
          exact imm_of hm0 h1
      · left
        intro hge
        exact absurd hge (by simpa using hc)
    · cases hp

theorem slots_of {ps : List POper} {bef : Array Nat} {lo : Nat} {prs : List (Nat × Nat)} (hp : pairsOf ps bef lo = some prs) {i j : Nat} {a b : POper} (hij : i < j) (ha : ps[i]? = some a) (hb : ps[j]? = some b) : (bef.getD (lo + j) 0).testBit (lo + i) = true ∨ slotsMeet a b = false := by
  by_cases hb' : (bef.getD (lo + j) 0).testBit (lo + i) = true
  · exact .inl hb'
  · right
    unfold pairsOf at hp
    simp only at hp
    split at hp
    · rename_i hall
      have hj : j < ps.length := (List.getElem?_eq_some_iff.1 hb).1
      have hmem : (i, j) ∈ (List.range ps.length).flatMap fun j => ((List.range j).filter fun i => !(bef.getD (lo + j) 0).testBit (lo + i)).map fun i => (i, j) := by
        refine List.mem_flatMap.2 ⟨j, List.mem_range.2 (by omega), List.mem_map.2 ⟨i, List.mem_filter.2 ⟨List.mem_range.2 hij, ?_⟩, rfl⟩⟩
        simpa using hb'
      have := List.all_eq_true.1 hall _ hmem
      simpa [meetAt, ha, hb] using this
    · cases hp

theorem read_meets {p a : POper} {t : Nat} (h : p.d = some t) (ha : a.reads.contains t = true) : slotsMeet p a = true := by
  unfold slotsMeet
  rw [h]
  simp only [ha, Bool.true_or]

theorem runL_step (lk : Lnk P C) : ∀ {R : List Rec} {e e' : Env} {m m' : Sto}, RunL C R e m e' m' → ∀ r ∈ R, ∃ m0, stepA C r.n r.p r.ea m0 r.x = some r.q
  | [], _, _, _, _, _, r, hr => by cases hr
  | a :: R, e, _, m, _, ⟨⟨h1, h2⟩, h3⟩, r, hr => by
    rcases List.mem_cons.1 hr with rfl | hr
    · exact ⟨m, stepA_same lk h1 (fun t ht => (h2 t ht).symm) (fun _ _ => rfl)⟩
    · exact runL_step lk h3 r hr
theorem any_sound (lk : Lnk P C) (ih : ∀ k, k < n → Sound P C k) : AnyS P C n := by
  intro N ops lo ps prs s s' x ts sch hp ho hr ha hsch hord b tm df cs w g rest k hs
  cases x with
  | exit id =>
    exfalso
    have : ∀ {ps : List POper} {n : Nat} {s s' : S} {ts ts' : List Tch}, runAny C n ps s ts = some (.exit id, s', ts') → False := by
      intro ps
      induction ps with
      | nil => intro n s s' ts ts' h; cases n <;> simp [runAny] at h
      | cons p ps IH =>
        intro n s s' ts ts' h
        cases n with
        | zero => simp [runAny] at h
        | succ n =>
          rw [runAny_cons] at h
          split at h
          · split at h <;> cases h
          · simp only [Option.bind_eq_some_iff] at h
            obtain ⟨q, _, h2⟩ := h
            exact IH h2
    exact this hr
  | ret =>
    exfalso
    have : ∀ {ps : List POper} {n : Nat} {s s' : S} {ts ts' : List Tch}, runAny C n ps s ts = some (.ret, s', ts') → False := by
      intro ps
      induction ps with
      | nil => intro n s s' ts ts' h; cases n <;> simp [runAny] at h
      | cons p ps IH =>
        intro n s s' ts ts' h
        cases n with
        | zero => simp [runAny] at h
        | succ n =>
          rw [runAny_cons] at h
          split at h
          · split at h <;> cases h
          · simp only [Option.bind_eq_some_iff] at h
            obtain ⟨q, _, h2⟩ := h
            exact IH h2
    exact this hr
  | nor =>
    have ha := ha rfl
    obtain ⟨R, r1, r2, r3, r4, r5, r6, r7, r8, r9, r10⟩ := recs lk lo hr
    simp only [List.reverse_nil, List.nil_append] at r7
    subst r7
    have hap := apart_of (C := C) hp r1 r2 (runL_step lk r3) ha
    rw [← r2] at hsch
    have hnd : sch.Nodup := by
      rw [hsch.nodup_iff, r2]
      exact List.nodup_range'
    have hrec : ∀ r ∈ R, r.n ≤ n ∧ ∃ o, ops[r.k]? = some o ∧ compOper P N ops o = some r.p := by
      intro r hr'
      refine ⟨Nat.le_of_lt (r9 r hr').2.2, ?_⟩
      refine opsR_recs ?_ r hr'
      rw [r1, r2]
      exact ho
    obtain ⟨g', tm', w', q1, q2, q3, q4, q5, q6, q7⟩ := any_go lk ih (b := b) (df := df) (cs := cs) (rest := rest) (k := k) hsch hnd r3 hrec hap hord r10 hs.er hs.size hs.wr
      (fun r hr' l hl1 _ => hs.fresh l (by have := (r9 r hr').1; omega))
    refine ⟨g', tm', df, cs, w', ⟨q1, ⟨q3, q4, ?_, q5, fun l hl => ?_, ?_, ?_, hs.fn⟩, q6, ?_, r6⟩, q7, by simp, by simp⟩
    · rw [r4]; exact hs.dl.up q1
    · rw [q2 l (fun r hr' hh => by have := (r9 r hr').2.1; omega)]
      exact hs.fresh l (by omega)
    · rw [r5]; exact hs.rc.up q1
    · rw [r6]; exact hs.rd.up q1
    · rw [r5]; exact CSR.refl _ _
  | pan v =>
    obtain ⟨R, nP, xP, p, q, r, e1, r1, r2, r3, r4, _, r5, r6, rfl, rfl, r8, r9, r10, r11⟩ := recsP lk lo hr
    have hlen : ps.length = R.length + 1 + r.length := by rw [r1]; simp; omega
    have hk : ∀ (t : Nat) (ht : t < R.length), R[t].k = lo + t := by
      intro t ht
      have h1 : (R.map Rec.k)[t]? = some R[t].k := by simp [ht]
      rw [r2] at h1
      have h2 : (List.range' lo R.length)[t]? = some (lo + t) := by
        rw [List.getElem?_range' (by omega)]
        simp
      rw [h2] at h1
      exact (Option.some.inj h1).symm
    have hpR : ∀ (t : Nat) (ht : t < R.length), ps[t]? = some R[t].p := by
      intro t ht
      rw [r1, List.getElem?_append_left (by simpa using ht)]
      simp [ht]
    have hpP : ps[R.length]? = some p := by
      rw [r1, List.getElem?_append_right (by simp)]
      simp
    have hrange : List.range' lo ps.length = R.map Rec.k ++ (lo + R.length) :: List.range' (lo + R.length + 1) r.length := by
      rw [r2, hlen, Nat.add_assoc R.length 1 r.length, ← List.range'_append_1, Nat.add_comm 1 r.length, List.range'_succ]
    have hops : ∀ (t : Nat) (pp : POper), ps[t]? = some pp → ∃ o, ops[lo + t]? = some o ∧ compOper P N ops o = some pp := by
      have : ∀ {ps : List POper} {lo : Nat}, OpsR P N ops (List.range' lo ps.length) ps → ∀ (t : Nat) (pp : POper), ps[t]? = some pp → ∃ o, ops[lo + t]? = some o ∧ compOper P N ops o = some pp := by
        intro ps
        induction ps with
        | nil => intro lo _ t pp h; simp at h
        | cons a ps IH =>
          intro lo h t pp ht
          simp only [List.length_cons, List.range'_succ] at h
          cases t with
          | zero =>
            simp only [List.getElem?_cons_zero, Option.some.injEq] at ht
            subst ht
            exact h.1
          | succ t =>
            obtain ⟨o, h1, h2⟩ := IH h.2 t pp (by simpa using ht)
            exact ⟨o, by rw [← h1]; congr 1; omega, h2⟩
      exact this ho
    have hnd : sch.Nodup := by
      rw [hsch.nodup_iff]
      exact List.nodup_range'
    rw [hrange] at hsch
    have hrec : ∀ r ∈ R, r.n ≤ n ∧ ∃ o, ops[r.k]? = some o ∧ compOper P N ops o = some r.p := by
      intro r hr'
      obtain ⟨t, ht, rfl⟩ := List.getElem_of_mem hr'
      refine ⟨Nat.le_of_lt (r10 _ hr').2.2, ?_⟩
      rw [hk t ht]
      exact hops t _ (hpR t ht)
    have hL : ∀ j ∈ List.range' (lo + R.length + 1) r.length, Late P N ops R (lo + R.length) p j := by
      intro j hj
      rw [List.mem_range'_1] at hj
      obtain ⟨t, rfl⟩ : ∃ t, j = lo + R.length + 1 + t := ⟨j - (lo + R.length + 1), by omega⟩
      have htr : t < r.length := by omega
      have hpj : ps[R.length + 1 + t]? = some r[t] := by
        rw [r1, List.getElem?_append_right (by simp; omega)]
        simp only [List.length_map]
        rw [show R.length + 1 + t - R.length = t + 1 by omega]
        simp [htr]
      have hrd := List.all_eq_true.1 r6 r[t] (List.getElem_mem htr)
      rcases slots_of hp (by omega : R.length < R.length + 1 + t) hpP hpj with h1 | h1
      · left
        rw [show lo + R.length + 1 + t = lo + (R.length + 1 + t) by omega]; exact h1
      · right
        rw [Bool.or_eq_true] at hrd
        rcases hrd with hrd | hrd
        · cases hd : p.d with
          | none => rw [hd] at hrd; simp at hrd
          | some d =>
            rw [hd] at hrd
            rw [read_meets hd hrd] at h1; cases h1
        · have hshape : ∃ d z, r[t] = ⟨d, .al z, none⟩ := by
            generalize r[t] = pp at hrd
            obtain ⟨d, o, gd⟩ := pp
            simp only at hrd
            split at hrd
            · exact ⟨_, _, rfl⟩
            · cases hrd
          obtain ⟨d, z, he⟩ := hshape
          obtain ⟨o, ho1, ho2⟩ := hops _ _ hpj
          rw [he] at ho2 h1
          refine ⟨o, d, z, by rw [← ho1]; congr 1; omega, ho2, h1, fun a ha' => ?_⟩
          obtain ⟨t', ht', rfl⟩ := List.getElem_of_mem ha'
          rw [hk t' ht']
          have := slots_of hp (by omega : t' < R.length + 1 + t) (hpR t' ht') hpj
          rw [he] at this
          rw [show lo + R.length + 1 + t = lo + (R.length + 1 + t) by omega]
          exact this
    have hapR : R.Pairwise (fun a b => ((Go.Region.before ops).getD b.k 0).testBit a.k = true ∨ slotsMeet a.p b.p = false) := by
      refine List.pairwise_iff_getElem.2 fun i j hi hj hij => ?_
      rw [hk i hi, hk j hj]
      exact slots_of hp hij (hpR i hi) (hpR j hj)
    have hapP : ∀ a ∈ R, ((Go.Region.before ops).getD (lo + R.length) 0).testBit a.k = true ∨ slotsMeet a.p p = false := by
      intro a ha'
      obtain ⟨t, ht, rfl⟩ := List.getElem_of_mem ha'
      rw [hk t ht]
      exact slots_of hp ht (hpR t ht) hpP
    obtain ⟨g', tm', w', v', k2, q1, q2, q4, q5, q6, q7, q8⟩ := any_goP lk ih (b := b) (df := df) (cs := cs) (rest := rest) (k := k) (Nat.le_of_lt r9) (hops _ _ hpP) hL hsch hnd r3 r4 r5 hrec hapR hapP hord r11 (fun a ha' => (r10 a ha').2.1) hs.er hs.size hs.wr
      (fun r hr' l hl1 _ => hs.fresh l (by have := (r10 r hr').1; omega)) (fun l hl1 _ => hs.fresh l (by omega))
    have hqx := (stepP_ws lk r5).1
    refine ⟨g', tm', df, cs, w', ⟨q1, ⟨fun t => by simp [VR], q4, hs.dl.up q1, q5, fun l hl => ?_, hs.rc.up q1, hs.rd.up q1, hs.fn⟩, q6, CSR.refl _ _, rfl⟩, ⟨v', k2, q7, q8⟩, by simp, by simp⟩
    simp only at hl
    rw [q2 l (fun r hr' hh => by have := (r10 r hr').2.1; omega) (fun hh => by rw [List.length_range'] at hh; omega)]
    exact hs.fresh l (by omega)

/-! ### the order that is drawn -/

end
end Pi


/- The order that is drawn: each operation once, none ahead of what it waits for. -/
namespace Pi
open Go (IntKind TypeId FuncId Fn BinOp UnOp LoopState Value Addr World Program undef Operand Sem Result Frame Item step lone Steps step_lone_go stepG)

theorem edges_bit {A : Nat → Nat} {j : Nat} : ∀ {l : List Go.Edge} {s : Nat}, (l.foldl (fun s e => if Go.Region.binds .any e then s ||| 2 ^ e.on ||| A e.on else s) s).testBit j = true →
    s.testBit j = true ∨ ∃ e ∈ l, Go.Region.binds .any e = true ∧ (e.on = j ∨ (A e.on).testBit j = true)
  | [], s, h => .inl h
  | e :: l, s, h => by
    simp only [List.foldl_cons] at h
    rcases edges_bit h with h1 | ⟨e', h1, h2⟩
    · split at h1
      · rename_i hb
        simp only [Nat.testBit_or, Bool.or_eq_true, Nat.testBit_two_pow, decide_eq_true_eq] at h1
        rcases h1 with (h1 | h1) | h1
        · exact .inl h1
        · exact .inr ⟨e, List.mem_cons_self, hb, .inl h1⟩
        · exact .inr ⟨e, List.mem_cons_self, hb, .inr h1⟩
      · exact .inl h1
    · exact .inr ⟨e', List.mem_cons_of_mem _ h1, h2⟩

def bStep (acc : Array Nat) (o : Go.Oper) : Array Nat := acc.push (o.after.foldl (fun s e => if Go.Region.binds .any e then s ||| 2 ^ e.on ||| acc.getD e.on 0 else s) 0)

theorem getD_push {acc : Array Nat} {v k : Nat} (h : k < acc.size) : (acc.push v).getD k 0 = acc.getD k 0 := by
  simp [Array.getD, h, Nat.lt_succ_of_lt h, Array.getElem_push_lt h]

theorem bFold_old : ∀ {l : List Go.Oper} {acc : Array Nat} {k : Nat}, k < acc.size → (l.foldl bStep acc).getD k 0 = acc.getD k 0
  | [], _, _, _ => rfl
  | o :: l, acc, k, h => by
    simp only [List.foldl_cons]
    rw [bFold_old (by simp [bStep]; omega)]
    exact getD_push h

theorem bFold_bit : ∀ {l : List Go.Oper} {acc : Array Nat} {i j : Nat} {o : Go.Oper}, l[i]? = some o → ((l.foldl bStep acc).getD (acc.size + i) 0).testBit j = true →
    ∃ e ∈ o.after.toList, Go.Region.binds .any e = true ∧ (e.on = j ∨ ((l.foldl bStep acc).getD e.on 0).testBit j = true)
  | [], _, _, _, _, h, _ => by simp at h
  | p :: l, acc, i, j, o, h, hb => by
    cases i with
    | zero =>
      simp only [List.getElem?_cons_zero, Option.some.injEq] at h
      subst h
      simp only [List.foldl_cons, Nat.add_zero] at hb ⊢
      rw [bFold_old (by simp [bStep])] at hb
      have h1 : (bStep acc p).getD acc.size 0 = p.after.foldl (fun s e => if Go.Region.binds .any e then s ||| 2 ^ e.on ||| acc.getD e.on 0 else s) 0 := by
        simp [bStep, Array.getD]
      rw [h1, ← Array.foldl_toList] at hb
      rcases edges_bit (A := fun k => acc.getD k 0) hb with h2 | ⟨e, h2, h3, h4⟩
      · simp at h2
      · refine ⟨e, h2, h3, ?_⟩
        rcases h4 with h4 | h4
        · exact .inl h4
        · right
          have hlt : e.on < acc.size := by
            rcases Nat.lt_or_ge e.on acc.size with h5 | h5
            · exact h5
            · simp [Array.getD, Nat.not_lt.2 h5] at h4
          rw [bFold_old (by simp [bStep]; omega)]
          rw [show (bStep acc p).getD e.on 0 = acc.getD e.on 0 from getD_push hlt]
          exact h4
    | succ i =>
      simp only [List.getElem?_cons_succ] at h
      simp only [List.foldl_cons] at hb ⊢
      exact bFold_bit (acc := bStep acc p) h (by rw [show (bStep acc p).size + i = acc.size + (i + 1) by simp [bStep]; omega]; exact hb)

/-- What is before an operation is waited for, or before what is waited for. -/
theorem before_bit {ops : Array Go.Oper} {i j : Nat} {o : Go.Oper} (h : ops[i]? = some o) (hb : ((Go.Region.before ops).getD i 0).testBit j = true) :
    ∃ e ∈ o.after.toList, Go.Region.binds .any e = true ∧ (e.on = j ∨ ((Go.Region.before ops).getD e.on 0).testBit j = true) := by
  have e1 : Go.Region.before ops = ops.toList.foldl bStep #[] := by
    unfold Go.Region.before
    rw [← Array.foldl_toList]
    rfl
  rw [e1] at hb ⊢
  exact bFold_bit (acc := #[]) (by simpa using h) (by simpa using hb)

theorem go_ok {ops : Array Go.Oper} (hE : edgesOk ops = true) : ∀ (fuel t : Nat) (listed : Array Bool) (U : List Nat), listed.size = ops.size → U.length ≤ fuel → (∀ i, i < ops.size → listed.getD i true = false → i ∈ U) →
    (∀ k, listed.getD k false = true → ∀ j, ((Go.Region.before ops).getD k 0).testBit j = true → listed.getD j false = true) →
    (Go.Region.linearise.go .any ops fuel t listed []).Nodup ∧ (∀ i ∈ Go.Region.linearise.go .any ops fuel t listed [], i < ops.size ∧ listed.getD i true = false) ∧
      (∀ i, i < ops.size → listed.getD i true = false → i ∈ Go.Region.linearise.go .any ops fuel t listed []) ∧
      (Go.Region.linearise.go .any ops fuel t listed []).Pairwise (fun i j => ((Go.Region.before ops).getD i 0).testBit j = false) := by
  intro fuel
  induction fuel with
  | zero =>
    intro t listed U hs hU hm hc
    have : U = [] := List.eq_nil_of_length_eq_zero (by omega)
    subst this
    simp only [Go.Region.linearise.go, List.reverse_nil]
    exact ⟨.nil, (by intro i hi; cases hi), (fun i h1 h2 => absurd (hm i h1 h2) (by simp)), .nil⟩
  | succ fuel ih =>
    intro t listed U hs hU hm hc
    have same : ∀ i, i < ops.size → listed.getD i true = listed.getD i false := by
      intro i hi
      simp [Array.getD, hs, hi]
    simp only [Go.Region.linearise.go]
    split
    · rename_i i hi
      have hin := List.mem_of_getElem? hi
      rw [List.mem_filter] at hin
      obtain ⟨hr, hready⟩ := hin
      have hlt : i < ops.size := List.mem_range.1 hr
      simp only [Bool.and_eq_true, Bool.not_eq_true'] at hready
      obtain ⟨hun, hed⟩ := hready
      have hoi : ops[i]? = some ops[i] := Array.getElem?_eq_getElem hlt
      rw [hoi] at hed
      simp only [Option.map_some, Option.getD_some] at hed
      have hedge : ∀ e ∈ ops[i].after.toList, Go.Region.binds .any e = true → listed.getD e.on false = true := by
        intro e he hb
        rw [Array.all_eq_true_iff_forall_mem] at hed
        have := hed e (by simpa using he)
        simpa [hb] using this
      have hself : ∀ k, (listed.setIfInBounds i true).getD k false = true ↔ (listed.getD k false = true ∨ k = i) := by
        intro k
        by_cases e : k = i
        · subst e
          simp [Array.getD, hs, hlt]
        · simp only [Array.getD, Array.size_setIfInBounds]
          split
          · rename_i hk
            rw [Array.getInternal_eq_getElem, Array.getInternal_eq_getElem, Array.getElem_setIfInBounds_ne (by simpa using hk) (fun e2 => e e2.symm)]
            simp [e]
          · simp [e]
      have hself' : ∀ k, k < ops.size → ((listed.setIfInBounds i true).getD k true = false ↔ (listed.getD k true = false ∧ k ≠ i)) := by
        intro k hk
        have h1 := hself k
        have h2 : (listed.setIfInBounds i true).getD k true = (listed.setIfInBounds i true).getD k false := by simp [Array.getD, hs, hk]
        rw [h2, same k hk]
        constructor
        · intro h3
          constructor
          · cases h4 : listed.getD k false with
            | false => rfl
            | true => rw [h1.2 (.inl h4)] at h3; cases h3
          · intro e
            rw [h1.2 (.inr e)] at h3
            cases h3
        · rintro ⟨h3, h4⟩
          cases h5 : (listed.setIfInBounds i true).getD k false with
          | false => rfl
          | true =>
            rcases h1.1 h5 with h6 | h6
            · rw [h3] at h6; cases h6
            · exact absurd h6 h4
      rw [Go.linearise_go_acc, List.reverse_singleton, List.singleton_append]
      obtain ⟨a1, a2, a3, a4⟩ := ih (t / ((List.range ops.size).filter fun i => !listed.getD i true && ((ops[i]?).map (·.after.all fun e => !Go.Region.binds .any e || listed.getD e.on false)).getD false).length) (listed.setIfInBounds i true) (U.erase i) (by simpa using hs)
        (by have := List.length_erase_of_mem (hm i hlt hun); omega)
        (fun k hk1 hk2 => by
          obtain ⟨b1, b2⟩ := (hself' k hk1).1 hk2
          exact (List.mem_erase_of_ne b2).2 (hm k hk1 b1))
        (fun k hk j hj => by
          rw [hself] at hk ⊢
          left
          rcases hk with hk | rfl
          · exact hc k hk j hj
          · obtain ⟨e, e1, e2, e3⟩ := before_bit hoi hj
            have e4 := hedge e e1 e2
            rcases e3 with rfl | e3
            · exact e4
            · exact hc _ e4 j e3)
      refine ⟨List.nodup_cons.2 ⟨fun h => ?_, a1⟩, fun k hk => ?_, fun k hk1 hk2 => ?_, List.pairwise_cons.2 ⟨fun j hj => ?_, a4⟩⟩
      · obtain ⟨b1, b2⟩ := a2 i h
        exact ((hself' i b1).1 b2).2 rfl
      · rcases List.mem_cons.1 hk with rfl | hk
        · exact ⟨hlt, hun⟩
        · obtain ⟨b1, b2⟩ := a2 k hk
          exact ⟨b1, ((hself' k b1).1 b2).1⟩
      · by_cases e : k = i
        · subst e; exact List.mem_cons_self
        · exact List.mem_cons_of_mem _ (a3 k hk1 ((hself' k hk1).2 ⟨hk2, e⟩))
      · cases hb : ((Go.Region.before ops).getD i 0).testBit j with
        | false => rfl
        | true =>
          exfalso
          obtain ⟨b1, b2⟩ := a2 j hj
          have b3 := ((hself' j b1).1 b2).1
          rw [same j b1] at b3
          obtain ⟨e, e1, e2, e3⟩ := before_bit hoi hb
          have e4 := hedge e e1 e2
          rcases e3 with rfl | e3
          · rw [e4] at b3; cases b3
          · rw [hc _ e4 j e3] at b3; cases b3
    · rename_i hnone
      -- nothing is ready: all is listed
      have hall : ∀ i, i < ops.size → listed.getD i true = false → False := by
        intro i
        induction i using Nat.strongRecOn with
        | ind i ihi =>
          intro hlt hun
          have hoi : ops[i]? = some ops[i] := Array.getElem?_eq_getElem hlt
          have hready : i ∈ (List.range ops.size).filter fun i => !listed.getD i true && ((ops[i]?).map (·.after.all fun e => !Go.Region.binds .any e || listed.getD e.on false)).getD false := by
            refine List.mem_filter.2 ⟨List.mem_range.2 hlt, ?_⟩
            simp only [hun, Bool.not_false, Bool.true_and, hoi, Option.map_some, Option.getD_some]
            rw [Array.all_eq_true_iff_forall_mem]
            intro e he
            have hE1 := List.all_eq_true.1 hE i (List.mem_range.2 hlt)
            simp only [hoi] at hE1
            have hE2 := List.all_eq_true.1 hE1 e (by simpa using he)
            simp only [Bool.or_eq_true, Bool.not_eq_true', decide_eq_true_eq] at hE2 ⊢
            rcases hE2 with h | h
            · exact .inl h
            · right
              cases hl : listed.getD e.on false with
              | true => rfl
              | false => exact (ihi e.on h (by omega) (by rw [same _ (by omega)]; exact hl)).elim
          have hpos : 0 < ((List.range ops.size).filter fun i => !listed.getD i true && ((ops[i]?).map (·.after.all fun e => !Go.Region.binds .any e || listed.getD e.on false)).getD false).length := List.length_pos_of_mem hready
          have h2 := Nat.mod_lt t hpos
          rw [List.getElem?_eq_none_iff] at hnone
          omega
      simp only [List.reverse_nil]
      exact ⟨.nil, (by intro i hi; cases hi), (fun i h1 h2 => (hall i h1 h2).elim), .nil⟩

theorem linear_ok {ops : Array Go.Oper} (hE : edgesOk ops = true) (t : Nat) :
    (Go.Region.linearise .any ops t).Perm (List.range' 0 ops.size) ∧ (Go.Region.linearise .any ops t).Pairwise (fun i j => ((Go.Region.before ops).getD i 0).testBit j = false) := by
  have h0 : ∀ i, (Array.replicate ops.size false).getD i false = false := by
    intro i; simp [Array.getD]
  have h1 : ∀ i, i < ops.size → (Array.replicate ops.size false).getD i true = false := by
    intro i hi; simp [Array.getD, hi]
  obtain ⟨a1, a2, a3, a4⟩ := go_ok hE ops.size t (Array.replicate ops.size false) (List.range ops.size) (by simp) (by simp) (fun i hi _ => List.mem_range.2 hi) (fun k hk => by rw [h0] at hk; cases hk)
  refine ⟨?_, a4⟩
  refine (List.perm_ext_iff_of_nodup a1 List.nodup_range').2 fun i => ?_
  constructor
  · intro h
    have := (a2 i h).1
    simp [List.mem_range'_1]
    exact this
  · intro h
    have h2 : i < ops.size := by simpa [List.mem_range'_1] using h
    exact a3 i h2 (h1 i h2)

end Pi


/- The run of code: regions. -/
namespace Pi
open Go (IntKind TypeId FuncId Fn BinOp UnOp LoopState Value Addr World Program undef Operand Sem Result Frame Item step lone Steps step_lone_go stepG)

section
variable {P : Program} {C : Ctx} {n : Nat}

theorem compOpers_ok {N : Nat} {ops : Array Go.Oper} : ∀ {l : List Go.Oper} {lo : Nat} {ps : List POper}, compOpers P N ops l = some ps → (∀ (i : Nat) o, l[i]? = some o → ops[lo + i]? = some o) → OpsR P N ops (List.range' lo l.length) ps ∧ ps.length = l.length
  | [], lo, ps, h, _ => by
    simp only [compOpers, Option.some.injEq] at h
    subst h
    exact ⟨trivial, rfl⟩
  | o :: l, lo, ps, h, ha => by
    simp only [compOpers, Option.bind_eq_some_iff, Option.map_eq_some_iff] at h
    obtain ⟨p, h1, ps', h2, rfl⟩ := h
    obtain ⟨a1, a2⟩ := compOpers_ok (lo := lo + 1) h2 (fun i o' hi => by have := ha (i + 1) o' (by simpa using hi); rw [← this]; congr 1; omega)
    refine ⟨?_, by simp [a2]⟩
    simp only [List.length_cons, List.range'_succ]
    exact ⟨⟨o, by simpa using ha 0 o (by simp), h1⟩, a1⟩

theorem part_at {ops : Array Go.Oper} {lo k : Nat} : ∀ (i : Nat) o, ((ops.toList.drop lo).take k)[i]? = some o → ops[lo + i]? = some o := by
  intro i o h
  rw [List.getElem?_take] at h
  split at h
  · rw [List.getElem?_drop] at h
    simpa using h
  · cases h

theorem joint_split {ops : Array Go.Oper} {j lo : Nat} (hj : isJoint (Go.Region.before ops) ops.size j = true) (h1 : lo ≤ j) (h2 : j < ops.size) {sch : List Nat} (hp : sch.Perm (List.range' lo (ops.size - lo)))
    (ho : sch.Pairwise (fun i j => ((Go.Region.before ops).getD i 0).testBit j = false)) :
    ∃ A Bs, sch = A ++ j :: Bs ∧ A.Perm (List.range' lo (j - lo)) ∧ Bs.Perm (List.range' (j + 1) (ops.size - (j + 1))) ∧ A.Pairwise (fun i j => ((Go.Region.before ops).getD i 0).testBit j = false) ∧ Bs.Pairwise (fun i j => ((Go.Region.before ops).getD i 0).testBit j = false) := by
  have mem : ∀ i, i ∈ sch ↔ (lo ≤ i ∧ i < ops.size) := by
    intro i
    rw [hp.mem_iff, List.mem_range'_1]
    omega
  have hn : sch.Nodup := by rw [hp.nodup_iff]; exact List.nodup_range'
  obtain ⟨A, Bs, rfl⟩ := List.append_of_mem ((mem j).2 ⟨h1, h2⟩)
  unfold isJoint at hj
  rw [Bool.and_eq_true] at hj
  obtain ⟨j1, j2⟩ := hj
  have ho1 := List.pairwise_append.1 ho
  have ho2 := List.pairwise_cons.1 ho1.2.1
  have hn1 := List.nodup_append.1 hn
  have hn2 := List.nodup_cons.1 hn1.2.1
  have hA : ∀ a ∈ A, a < j := by
    intro a ha
    have h3 := ho1.2.2 a ha j List.mem_cons_self
    have h4 := (mem a).1 (List.mem_append.2 (.inl ha))
    rcases Nat.lt_trichotomy a j with h5 | h5 | h5
    · exact h5
    · exact absurd h5 (hn1.2.2 a ha j List.mem_cons_self)
    · have h6 := List.all_eq_true.1 j2 a (by rw [List.mem_range'_1]; omega)
      rw [h3] at h6
      cases h6
  have hB : ∀ c ∈ Bs, j < c := by
    intro c hc
    have h3 := ho2.1 c hc
    rcases Nat.lt_trichotomy c j with h5 | h5 | h5
    · have h6 := List.all_eq_true.1 j1 c (List.mem_range.2 h5)
      rw [h3] at h6
      cases h6
    · subst h5; exact absurd hc hn2.1
    · exact h5
  refine ⟨A, Bs, rfl, ?_, ?_, ho1.1, ho2.2⟩
  · refine (List.perm_ext_iff_of_nodup hn1.1 List.nodup_range').2 fun i => ?_
    rw [List.mem_range'_1]
    constructor
    · intro h
      have h3 := hA i h
      have h4 := (mem i).1 (List.mem_append.2 (.inl h))
      omega
    · intro h
      have h4 := (mem i).2 ⟨h.1, by omega⟩
      rcases List.mem_append.1 h4 with h5 | h5
      · exact h5
      · rcases List.mem_cons.1 h5 with h6 | h6
        · omega
        · have := hB i h6; omega
  · refine (List.perm_ext_iff_of_nodup hn2.2 List.nodup_range').2 fun i => ?_
    rw [List.mem_range'_1]
    constructor
    · intro h
      have h3 := hB i h
      have h4 := (mem i).1 (List.mem_append.2 (.inr (List.mem_cons_of_mem _ h)))
      omega
    · intro h
      have h4 := (mem i).2 ⟨by omega, by omega⟩
      rcases List.mem_append.1 h4 with h5 | h5
      · have := hA i h5; omega
      · rcases List.mem_cons.1 h5 with h6 | h6
        · omega
        · exact h6

theorem range_end {lo n : Nat} (h : n ≤ lo) {sch : List Nat} (hp : sch.Perm (List.range' lo (n - lo))) : sch = [] := by
  have : n - lo = 0 := by omega
  rw [this] at hp
  exact List.perm_nil.1 hp

theorem runSegs_nil {s s' : S} {x : X} (h : runSegs C n [] s = some (x, s')) : x = .nor ∧ s' = s := by
  cases n with
  | zero => simp [runSegs] at h
  | succ n =>
    simp only [runSegs, Option.some.injEq, Prod.mk.injEq] at h
    exact ⟨h.1.symm, h.2.symm⟩

/-- Operations in order, and what comes after them. -/
theorem seq_go {n1 : Nat} (ih : Sound P C n1) {N : Nat} {ops : Array Go.Oper} {is rest : List Nat} {one : List POper} (hone : OpsR P N ops is one) {segs : List Seg} {s s' : S} {x : X} (he : runSegs C (n1 + 1) (.seq one :: segs) s = some (x, s'))
    {b : B} {tm : Array Value} {df : List Go.Deferred} {cs : List Frame} {w : World} {g : G} {k : List Item} (hs : SR P N g b s tm df cs w)
    (next : ∀ {s1 : S} {g1 : G} {tm1 : Array Value} {df1 : List Go.Deferred} {cs1 : List Frame} {w1 : World}, runSegs C n1 segs s1 = some (x, s') → SR P N g1 b s1 tm1 df1 cs1 w1 →
      ∃ g' tm' df' cs' w', To P N b g1 s1 cs1 w1 g' s' tm' df' cs' w' ∧ Lands P g' b k (lone (b.at tm1 df1 (.inRegion ops rest :: k)) cs1 w1) x tm' df' cs' w') :
    ∃ g' tm' df' cs' w', To P N b g s cs w g' s' tm' df' cs' w' ∧ Lands P g' b k (lone (b.at tm df (.inRegion ops (is ++ rest) :: k)) cs w) x tm' df' cs' w' := by
  simp only [runSegs, Option.bind_eq_some_iff] at he
  obtain ⟨⟨x1, s1⟩, h1, h2⟩ := he
  obtain ⟨g1, tm1, df1, cs1, w1, t1, l1, e1, e2⟩ := ih.ops hone h1 rest k hs
  cases x1 with
  | nor =>
    obtain ⟨g2, tm2, df2, cs2, w2, t2, l2⟩ := next h2 t1.sr
    exact ⟨g2, tm2, df2, cs2, w2, t1.trans t2, l2.steps l1⟩
  | exit id => exact absurd rfl (e1 id)
  | ret => exact absurd rfl e2
  | pan v =>
    simp only [Option.some.injEq, Prod.mk.injEq] at h2
    obtain ⟨rfl, rfl⟩ := h2
    exact ⟨g1, tm1, df1, cs1, w1, t1, l1.pass (by simp) (by simp)⟩

theorem end_go {N : Nat} {ops : Array Go.Oper} {s s' : S} {x : X} (he : runSegs C n [] s = some (x, s')) {b : B} {tm : Array Value} {df : List Go.Deferred} {cs : List Frame} {w : World} {g : G} {k : List Item} (hs : SR P N g b s tm df cs w) :
    ∃ g' tm' df' cs' w', To P N b g s cs w g' s' tm' df' cs' w' ∧ Lands P g' b k (lone (b.at tm df (.inRegion ops [] :: k)) cs w) x tm' df' cs' w' := by
  obtain ⟨rfl, rfl⟩ := runSegs_nil he
  exact ⟨g, tm, df, cs, w, To.refl hs, .one s_region_end⟩

/-- A piece of open order, and what comes after it. -/
theorem any_then {n1 : Nat} (ih : Sound P C n1) {N : Nat} {ops : Array Go.Oper} {lo : Nat} {ps : List POper} {prs : List (Nat × Nat)} {A rest : List Nat} (hp : pairsOf ps (Go.Region.before ops) lo = some prs) (ho : OpsR P N ops (List.range' lo ps.length) ps)
    (hA : A.Perm (List.range' lo ps.length)) (hA2 : A.Pairwise (fun i j => ((Go.Region.before ops).getD i 0).testBit j = false)) {segs : List Seg} {s s' : S} {x : X} (he : runSegs C (n1 + 1) (.any ps prs :: segs) s = some (x, s'))
    {b : B} {tm : Array Value} {df : List Go.Deferred} {cs : List Frame} {w : World} {g : G} {k : List Item} (hs : SR P N g b s tm df cs w)
    (next : ∀ {s1 : S} {g1 : G} {tm1 : Array Value} {df1 : List Go.Deferred} {cs1 : List Frame} {w1 : World}, runSegs C n1 segs s1 = some (x, s') → SR P N g1 b s1 tm1 df1 cs1 w1 →
      ∃ g' tm' df' cs' w', To P N b g1 s1 cs1 w1 g' s' tm' df' cs' w' ∧ Lands P g' b k (lone (b.at tm1 df1 (.inRegion ops rest :: k)) cs1 w1) x tm' df' cs' w') :
    ∃ g' tm' df' cs' w', To P N b g s cs w g' s' tm' df' cs' w' ∧ Lands P g' b k (lone (b.at tm df (.inRegion ops (A ++ rest) :: k)) cs w) x tm' df' cs' w' := by
  simp only [runSegs, Option.bind_eq_some_iff] at he
  obtain ⟨⟨x1, s1, ts⟩, h1, h2⟩ := he
  cases x1 with
  | nor =>
    simp only at h2
    split at h2
    · rename_i hap
      obtain ⟨g1, tm1, df1, cs1, w1, t1, l1, _⟩ := ih.any A hp ho h1 (fun _ => hap) hA hA2 rest k hs
      obtain ⟨g2, tm2, df2, cs2, w2, t2, l2⟩ := next h2 t1.sr
      exact ⟨g2, tm2, df2, cs2, w2, t1.trans t2, l2.steps l1⟩
    · cases h2
  | exit id =>
    obtain ⟨g1, tm1, df1, cs1, w1, t1, l1, e1, e2⟩ := ih.any A hp ho h1 (fun h => nomatch h) hA hA2 rest k hs
    exact absurd rfl (e1 id)
  | ret =>
    obtain ⟨g1, tm1, df1, cs1, w1, t1, l1, e1, e2⟩ := ih.any A hp ho h1 (fun h => nomatch h) hA hA2 rest k hs
    exact absurd rfl e2
  | pan v =>
    obtain ⟨g1, tm1, df1, cs1, w1, t1, l1, e1, e2⟩ := ih.any A hp ho h1 (fun h => nomatch h) hA hA2 rest k hs
    simp only [Option.some.injEq, Prod.mk.injEq] at h2
    obtain ⟨rfl, rfl⟩ := h2
    exact ⟨g1, tm1, df1, cs1, w1, t1, l1.pass (by simp) (by simp)⟩

theorem segs_go (ih : ∀ k, k ≤ n → Sound P C k) {N : Nat} {ops : Array Go.Oper} : ∀ (r j lo n1 : Nat) {segs : List Seg} {s s' : S} {x : X} {sch : List Nat}, n1 ≤ n + 1 → j + r = ops.size → lo ≤ j →
    segsOf P N ops (Go.Region.before ops) (List.range' j r) lo = some segs → runSegs C n1 segs s = some (x, s') → sch.Perm (List.range' lo (ops.size - lo)) → sch.Pairwise (fun i j => ((Go.Region.before ops).getD i 0).testBit j = false) →
    ∀ {b : B} {tm : Array Value} {df : List Go.Deferred} {cs : List Frame} {w : World} {g : G} (k : List Item), SR P N g b s tm df cs w →
      ∃ g' tm' df' cs' w', To P N b g s cs w g' s' tm' df' cs' w' ∧ Lands P g' b k (lone (b.at tm df (.inRegion ops sch :: k)) cs w) x tm' df' cs' w' := by
  intro r
  induction r with
  | zero =>
    intro j lo n1 segs s s' x sch hn hj hlo hsg he hp ho b tm df cs w g k hs
    simp only [List.range'_zero, segsOf] at hsg
    split at hsg
    · rename_i hl
      simp only [Option.some.injEq] at hsg
      subst hsg
      have : sch = [] := range_end (by omega) hp
      subst this
      exact end_go he hs
    · simp only [Option.bind_eq_some_iff, Option.map_eq_some_iff] at hsg
      obtain ⟨l, h1, ps, h2, rfl⟩ := hsg
      obtain ⟨a1, a2⟩ := compOpers_ok (lo := lo) h1 part_at
      have hlen : l.length = ops.size - lo := by rw [a2]; simp
      rw [← a2] at a1
      cases n1 with
      | zero => simp [runSegs] at he
      | succ n1 =>
        have := any_then (ih n1 (by omega)) (A := sch) (rest := []) h2 a1 (by rw [hlen]; exact hp) ho he (k := k) hs (fun h3 h4 => end_go h3 h4)
        simpa using this
  | succ r IH =>
    intro j lo n1 segs s s' x sch hn hj hlo hsg he hp ho b tm df cs w g k hs
    simp only [List.range'_succ, segsOf] at hsg
    split at hsg
    · rename_i hjt
      simp only [Option.bind_eq_some_iff] at hsg
      obtain ⟨one, h1, more, h2, h3⟩ := hsg
      obtain ⟨A, Bs, rfl, hA, hB, hA2, hB2⟩ := joint_split hjt hlo (by omega) hp ho
      obtain ⟨a1, a2⟩ := compOpers_ok (lo := j) h1 part_at
      have hone : OpsR P N ops [j] one := by
        have hl1 : ((ops.toList.drop j).take 1).length = 1 := by simp; omega
        rw [hl1] at a1
        exact a1
      have seqPart : ∀ {n2 : Nat}, n2 ≤ n + 1 → ∀ {s1 : S} {g1 : G} {tm1 : Array Value} {df1 : List Go.Deferred} {cs1 : List Frame} {w1 : World}, runSegs C n2 (.seq one :: more) s1 = some (x, s') → SR P N g1 b s1 tm1 df1 cs1 w1 →
          ∃ g' tm' df' cs' w', To P N b g1 s1 cs1 w1 g' s' tm' df' cs' w' ∧ Lands P g' b k (lone (b.at tm1 df1 (.inRegion ops (j :: Bs) :: k)) cs1 w1) x tm' df' cs' w' := by
        intro n2 hn2 s1 g1 tm1 df1 cs1 w1 hr1 hs1
        cases n2 with
        | zero => simp [runSegs] at hr1
        | succ n2 => exact seq_go (ih n2 (by omega)) (is := [j]) (rest := Bs) hone hr1 hs1 (fun h4 h5 => IH (j + 1) (j + 1) n2 (by omega) (by omega) (Nat.le_refl _) h2 h4 hB hB2 k h5)
      split at h3
      · rename_i hlj
        simp only [Option.some.injEq] at h3
        subst h3
        have : A = [] := range_end (n := j) (by omega) hA
        subst this
        exact seqPart hn he hs
      · simp only [Option.bind_eq_some_iff, Option.map_eq_some_iff] at h3
        obtain ⟨l, h4, ps, h5, rfl⟩ := h3
        obtain ⟨c1, c2⟩ := compOpers_ok (lo := lo) h4 part_at
        have hlen : l.length = j - lo := by rw [c2]; simp; omega
        rw [← c2] at c1
        cases n1 with
        | zero => simp [runSegs] at he
        | succ n1 => exact any_then (ih n1 (by omega)) (A := A) (rest := j :: Bs) h5 c1 (by rw [hlen]; exact hA) hA2 he hs (fun h6 h7 => seqPart (by omega) h6 h7)
    · exact IH (j + 1) lo n1 hn (by omega) (by omega) hsg he hp ho k hs

theorem segs_sound (lk : Lnk P C) (ih : ∀ k, k ≤ n → Sound P C k) : SegsS P C (n + 1) := by
  intro N id ops draw segs s s' x hc he b tm df cs w g k hs
  simp only [comp] at hc
  split at hc
  · rename_i hd
    subst hd
    split at hc
    · rename_i hE
      simp only [Option.map_eq_some_iff, PCode.reg.injEq] at hc
      obtain ⟨segs', h1, rfl⟩ := hc
      have h0 : List.range ops.size = List.range' 0 ops.size := by simp [List.range_eq_range']
      rw [h0] at h1
      obtain ⟨l1, l2⟩ := linear_ok hE (w.tape w.drawn (.order b.fn id))
      have hs2 : SR P N g b s tm df cs { w with drawn := w.drawn + 1 } := ⟨hs.er, hs.size, hs.dl, hs.wr.heap rfl, hs.fresh, hs.rc, hs.rd, hs.fn⟩
      obtain ⟨g', tm', df', cs', w', t, l⟩ := segs_go ih ops.size 0 0 (n + 1) (Nat.le_refl _) (by omega) (Nat.le_refl _) h1 he (by simpa using l1) l2 k hs2
      refine ⟨g', tm', df', cs', w', ⟨t.ge, t.sr, ?_, t.cr, t.rd⟩, l.steps (.one ?_)⟩
      · exact ⟨t.wb.os, t.wb.tape, t.wb.output, t.wb.size⟩
      · have := s_region_draw (P := P) (b := b) (tm := tm) (df := df) (k := k) (cs := cs) (w := w) (id := id) (ops := ops)
        rw [lk.mixed] at this
        simpa [Go.Region.schedule] using this
    · cases hc
  · rename_i hd
    have hd' : draw = false := by simpa using hd
    subst hd'
    simp only [Option.map_eq_some_iff, PCode.reg.injEq] at hc
    obtain ⟨l, h1, rfl⟩ := hc
    obtain ⟨a1, a2⟩ := compOpers_ok (lo := 0) h1 (fun i o h => by simpa using h)
    have hr : List.range ops.size = List.range' 0 ops.toList.length := by simp [List.range_eq_range']
    have start : Steps P (lone (b.at tm df (.code (.region id ops false) :: k)) cs w) (lone (b.at tm df (.inRegion ops (List.range ops.size) :: k)) cs w) := .one s_region
    rw [hr] at start
    obtain ⟨g', tm', df', cs', w', t, ld⟩ := seq_go (ih n (Nat.le_refl _)) (rest := []) a1 he (k := k) hs (fun h3 h4 => end_go h3 h4)
    refine ⟨g', tm', df', cs', w', t, ?_⟩
    rw [List.append_nil] at ld
    exact ld.steps start

end
end Pi


/- The run of code: all of it. -/
namespace Pi
open Go (IntKind TypeId FuncId Fn BinOp UnOp LoopState Value Addr World Program undef Operand Sem Result Frame Item step lone Steps step_lone_go stepG)

section
variable {P : Program} {C : Ctx}

theorem sound0 (lk : Lnk P C) : Sound P C 0 where
  exec := by intro N c pc s s' x hc he; simp [exec] at he
  loop := by intro N c pc s s' x hc he; simp [exec] at he
  segs := by intro N id ops draw segs s s' x hc he; simp [runSegs] at he
  ops := by intro N ops is ps s s' x hr he; simp [runOps] at he
  any := any_sound lk (fun k hk => absurd hk (by omega))
  call := by intro f args m m' x x' cr he; simp [callV] at he
  enter := by intro f as m m' x x' rv rv' cr he; simp [enter] at he
  leave := by intro F s pn m' x' rv' cr he; simp [leave] at he

theorem sound (lk : Lnk P C) : ∀ n k, k ≤ n → Sound P C k
  | 0, k, hk => by
    have : k = 0 := by omega
    subst this
    exact sound0 lk
  | n + 1, k, hk => by
    have ih := sound lk n
    by_cases h : k ≤ n
    · exact ih k h
    · have : k = n + 1 := by omega
      subst this
      have ihn := ih n (Nat.le_refl _)
      exact ⟨exec_sound ihn, fun h1 he _ _ _ _ _ _ k hs => loop_sound ihn h1 he k hs (.one s_inLoop), segs_sound lk ih, ops_sound ihn, any_sound lk (fun j hj => ih j (by omega)), call_sound lk ihn, enter_sound lk ihn, leave_sound lk ihn⟩

/-- What a run says of the machine's call: of a function that gets frozen arguments. -/
theorem calls_of_enter (lk : Lnk P C) {n f : Nat} {as : List V} {v : V} {m' : Sto} {x' : Nat} {rv' : Option V} (he : enter C n f as (fun _ => none) 0 none = some (.ret v, m', x', rv')) {w : World} {args : Array Value} {ro : Ro}
    (hro : ∀ b o, ro b = some o → w.heap[b]? = some o) (ha : PR ro as noRho args.toList) (hl : as.length = args.size) :
    Go.Calls P f args w (fun e w' => ∃ v' g', e = .returned v' ∧ Go.RowKit.Below w.heap.size w w' ∧ VR g'.ro v g'.rho v' ∧ WR P g' m' w') := by
  intro cs
  let g : G := ⟨noRho, ro, fun b => w.heap[b]?⟩
  have hw : WR P g (fun _ => none) w := ⟨(fun l o h => nomatch h), (fun l k o o' b n n' h => nomatch h), hro, fun b o h => h⟩
  obtain ⟨g', w', fr, cs', q1, q2, q3, q4, q5, q6, q7, q8, q9⟩ := (sound lk n n (Nat.le_refl _)).enter he (kd := .normal) (cs := cs) (g := g) ha hl hw (fun l _ => rfl) recNone
  obtain ⟨rfl, _⟩ := csrNone q5
  obtain ⟨z1, z2, fn, v', z3, z4, z5⟩ := q9
  refine ⟨.returned v', w', fr, ⟨v', g', rfl, ⟨q4.os, q4.tape, q4.output, q4.size, fun k hk => ?_⟩, z5, q2⟩, q6, q7, z1, z2, q8, fn, z3, z4⟩
  have h1 : w.heap[k]? = some w.heap[k] := Array.getElem?_eq_getElem hk
  rw [h1]
  exact q2.keep _ _ (q1.keep k _ h1)

/-- A law: it answers true, and what was there is as it was. -/
theorem law_of_enter (lk : Lnk P C) {n f : Nat} {as : List V} {m' : Sto} {x' : Nat} {rv' : Option V} (he : enter C n f as (fun _ => none) 0 none = some (.ret (.b true), m', x', rv')) {w : World} {args : Array Value} {ro : Ro}
    (hro : ∀ b o, ro b = some o → w.heap[b]? = some o) (ha : PR ro as noRho args.toList) (hl : as.length = args.size) :
    Go.Calls P f args w (fun e w' => e = .returned (.bool true) ∧ Go.RowKit.Below w.heap.size w w') := by
  intro cs
  obtain ⟨e, w', fr, ⟨v', g', h1, h2, h3, _⟩, h4⟩ := calls_of_enter lk he hro ha hl cs
  simp only [VR] at h3
  subst h3
  exact ⟨e, w', fr, ⟨h1, h2⟩, h4⟩

end
end Pi


/- What a run comes to, without fuel: rules for proofs. -/
namespace Pi
open Go (IntKind TypeId FuncId Fn BinOp UnOp LoopState)

def bs (l : List Nat) : ByteArray := ⟨(l.map UInt8.ofNat).toArray⟩

/-- From some number on. -/
def Ev (p : Nat → Prop) : Prop := ∃ n, ∀ k, n ≤ k → p k

theorem Ev.succ {p : Nat → Prop} (h : Ev fun k => p (k + 1)) : Ev p := by
  obtain ⟨n, h⟩ := h
  refine ⟨n + 1, fun k hk => ?_⟩
  obtain ⟨j, rfl⟩ : ∃ j, k = j + 1 := ⟨k - 1, by omega⟩
  exact h j (by omega)
theorem Ev.mono {p q : Nat → Prop} (h : Ev p) (hh : ∀ k, p k → q k) : Ev q := let ⟨n, h⟩ := h; ⟨n, fun k hk => hh k (h k hk)⟩
theorem Ev.and {p q : Nat → Prop} (h : Ev p) (h' : Ev q) : Ev fun k => p k ∧ q k := by
  obtain ⟨n, h⟩ := h
  obtain ⟨m, h'⟩ := h'
  exact ⟨max n m, fun k hk => ⟨h k (by omega), h' k (by omega)⟩⟩
theorem Ev.all {p : Nat → Prop} (h : ∀ k, p k) : Ev p := ⟨0, fun k _ => h k⟩
theorem Ev.one {α : Type} {f : Nat → Option α} {a b : α} (h : Ev fun k => f k = some a) (h' : Ev fun k => f k = some b) : a = b := by
  obtain ⟨n, h⟩ := h.and h'
  have h1 : f n = some a ∧ f n = some b := h n (Nat.le_refl _)
  rw [h1.1] at h1
  exact Option.some.inj h1.2

def Runs (C : Ctx) (c : PCode) (s : S) (x : X) (s' : S) : Prop := Ev fun k => exec C k c s = some (x, s')
def RunsO (C : Ctx) (l : List POper) (s : S) (x : X) (s' : S) : Prop := Ev fun k => runOps C k l s = some (x, s')
def RunsS (C : Ctx) (l : List Seg) (s : S) (x : X) (s' : S) : Prop := Ev fun k => runSegs C k l s = some (x, s')
def RunsA (C : Ctx) (l : List POper) (s : S) (ts : List Tch) (x : X) (s' : S) (ts' : List Tch) : Prop := Ev fun k => runAny C k l s ts = some (x, s', ts')
/-- A function value's call. -/
def Call (C : Ctx) (f : V) (args : List V) (m : Sto) (x : Nat) (cr : CR) (m' : Sto) (x' : Nat) : Prop := Ev fun k => callV C k f args m x = some (cr, m', x')
def Quiet (C : Ctx) (f : V) (args : List V) (m : Sto) (x : Nat) (q : QR) : Prop := Ev fun k => callQ C k f args m x = some q
/-- A function's run. -/
def Ent (C : Ctx) (g : Nat) (as : List V) (m : Sto) (x : Nat) (rv : Option V) (cr : CR) (m' : Sto) (x' : Nat) (rv' : Option V) : Prop := Ev fun k => enter C k g as m x rv = some (cr, m', x', rv')
def Leav (C : Ctx) (F : PFun) (s : S) (pn : Option V) (cr : CR) (m' : Sto) (x' : Nat) (rv' : Option V) : Prop := Ev fun k => leave C k F s pn = some (cr, m', x', rv')

def wpCall (C : Ctx) (f : V) (args : List V) (m : Sto) (x : Nat) (K : CR → Sto → Nat → Prop) : Prop := ∃ cr m' x', Call C f args m x cr m' x' ∧ K cr m' x'
def wpQuiet (C : Ctx) (f : V) (args : List V) (m : Sto) (x : Nat) (K : QR → Prop) : Prop := ∃ q, Quiet C f args m x q ∧ K q

theorem wpCall_eq {C : Ctx} {f : V} {args : List V} {m : Sto} {x : Nat} {K : CR → Sto → Nat → Prop} {cr : CR} {m' : Sto} {x' : Nat} (h : Call C f args m x cr m' x') : wpCall C f args m x K = K cr m' x' := by
  apply propext
  constructor
  · rintro ⟨cr2, m2, x2, h2, h3⟩
    have := Ev.one h h2
    simp only [Prod.mk.injEq] at this
    obtain ⟨rfl, rfl, rfl⟩ := this
    exact h3
  · intro h3
    exact ⟨_, _, _, h, h3⟩

theorem wpQuiet_eq {C : Ctx} {f : V} {args : List V} {m : Sto} {x : Nat} {K : QR → Prop} {q : QR} (h : Quiet C f args m x q) : wpQuiet C f args m x K = K q := by
  apply propext
  constructor
  · rintro ⟨q2, h2, h3⟩
    rw [Ev.one h h2]
    exact h3
  · intro h3
    exact ⟨_, h, h3⟩

/-- Operations in order. -/
def wpOps (C : Ctx) : List POper → S → (X → S → Prop) → Prop
  | [], s, Q => Q .nor s
  | p :: r, s, Q =>
    match wanted p.g s.e with
    | none => False
    | some false => wpOps C r (s.put p.d (.tu [])) Q
    | some true =>
      match p.o with
      | .ca f args => wpCall C (f.ev s.e) (args.map (Opd.ev s.e)) s.m s.x fun cr m' x' => match cr with
        | .ret v => wpOps C r ({ s with m := m', x := x' }.put p.d v) Q
        | .pan v => Q (.pan v) { s with m := m', x := x' }
      | .pa x => match x.ev s.e with
        | .fc t v => Q (.pan (.fc t v)) s
        | _ => False
      | .df f args => match f.ev s.e with
        | .fn (.func g) a c => if s.rd.isSome then False else wpOps C r ({ s with ds := .call (.fn (.func g) a c) (args.map (Opd.ev s.e)) :: s.ds }.put p.d (.tu [])) Q
        | _ => False
      | .rc => match s.rv with
        | some v => wpOps C r ({ s with rv := none }.put p.d v) Q
        | none => False
      | o => match opD o s.e s.m s.x with
        | some q => wpOps C r ({ s with m := s.m.app q.2, x := s.x + 1 }.put p.d q.1) Q
        | none => False

/-- Operations of open order. -/
def wpAny (C : Ctx) : List POper → S → List Tch → (X → S → List Tch → Prop) → Prop
  | [], s, ts, Q => Q .nor s ts.reverse
  | p :: r, s, ts, Q =>
    match wanted p.g s.e with
    | none => False
    | some false => wpAny C r (s.put p.d (.tu [])) (([], [], none, []) :: ts) Q
    | some true =>
      match p.o with
      | .ca f args => wpQuiet C (f.ev s.e) (args.map (Opd.ev s.e)) s.m s.x fun q =>
          if q.pan = true then noWs ts = true ∧ lateOk p.d r = true ∧ Q (.pan q.v) { s with e := fun _ => .un, m := s.m.app q.ws, x := q.x + r.length } []
          else wpAny C r ({ s with m := s.m.app q.ws, x := q.x }.put p.d q.v) ((q.ids, q.ws.map Prod.fst, none, q.ws) :: ts) Q
      | .pa _ | .df _ _ | .rc => False
      | o => match opD o s.e s.m s.x with
        | some q => wpAny C r ({ s with m := s.m.app q.2, x := s.x + 1 }.put p.d q.1) ((o.tch s.e s.x, q.2.map Prod.fst, ldI o s.e q.1, q.2) :: ts) Q
        | none => False

def wpSegs (C : Ctx) : List Seg → S → (X → S → Prop) → Prop
  | [], s, Q => Q .nor s
  | .seq ops :: r, s, Q => wpOps C ops s fun x s' => match x with
    | .nor => wpSegs C r s' Q
    | x => Q x s'
  | .any ops prs :: r, s, Q => wpAny C ops s [] fun x s' ts => match x with
    | .nor => apartAll ts prs = true ∧ wpSegs C r s' Q
    | x => Q x s'

def wp (C : Ctx) : PCode → S → (X → S → Prop) → Prop
  | .skip, s, Q => Q .nor s
  | .reg segs, s, Q => wpSegs C segs s Q
  | .seq a b, s, Q => wp C a s fun x s' => match x with
    | .nor => wp C b s' Q
    | x => Q x s'
  | .cond c a b, s, Q => match c.ev s.e with
    | .b t => if t then wp C a s Q else wp C b s Q
    | _ => False
  | .block id c, s, Q => wp C c s fun x s' => match x with
    | .exit id' => Q (if id' = id then .nor else .exit id') s'
    | x => Q x s'
  | .loop c, s, Q => ∃ x s', Runs C (.loop c) s x s' ∧ Q x s'
  | .scope c, s, Q => wp C c s Q
  | .exit id, s, Q => Q (.exit id) s
  | .ret, s, Q => Q .ret s
  | .rf f ps a b, s, Q => ∃ x s', Runs C (.rf f ps a b) s x s' ∧ Q x s'

section
variable {C : Ctx}

theorem wpOps_ok : ∀ {l : List POper} {s : S} {Q : X → S → Prop}, wpOps C l s Q → ∃ x s', RunsO C l s x s' ∧ Q x s'
  | [], s, Q, h => ⟨.nor, s, Ev.succ (.all fun k => by simp [runOps]), h⟩
  | p :: r, s, Q, h => by
    unfold wpOps at h
    cases hw : wanted p.g s.e with
    | none => rw [hw] at h; exact h.elim
    | some c =>
      rw [hw] at h
      cases c with
      | false =>
        obtain ⟨x, s', h1, h2⟩ := wpOps_ok h
        exact ⟨x, s', Ev.succ (h1.mono fun k hk => by simp only [runOps, hw]; exact hk), h2⟩
      | true =>
        simp only at h
        cases ho : p.o with
        | ca f args =>
          simp only [ho] at h
          obtain ⟨cr, m', x', h1, h2⟩ := h
          cases cr with
          | ret v =>
            obtain ⟨x, s', h3, h4⟩ := wpOps_ok h2
            exact ⟨x, s', Ev.succ ((h1.and h3).mono fun k hk => by simp only [runOps, hw, ho, hk.1, Option.bind_some]; exact hk.2), h4⟩
          | pan v => exact ⟨_, _, Ev.succ (h1.mono fun k hk => by simp only [runOps, hw, ho, hk, Option.bind_some]), h2⟩
        | pa y =>
          simp only [ho] at h
          split at h
          · rename_i t v hv
            exact ⟨_, _, Ev.succ (.all fun k => by simp only [runOps, hw, ho, hv]), h⟩
          · exact h.elim
        | df f args =>
          simp only [ho] at h
          split at h
          · rename_i g a c hv
            split at h
            · exact h.elim
            · rename_i hrd
              obtain ⟨x, s', h3, h4⟩ := wpOps_ok h
              exact ⟨x, s', Ev.succ (h3.mono fun k hk => by simp only [runOps, hw, ho, hv]; rw [if_neg hrd]; exact hk), h4⟩
          · exact h.elim
        | rc =>
          simp only [ho] at h
          split at h
          · rename_i v hv
            obtain ⟨x, s', h3, h4⟩ := wpOps_ok h
            exact ⟨x, s', Ev.succ (h3.mono fun k hk => by simp only [runOps, hw, ho, hv]; exact hk), h4⟩
          · exact h.elim
        | _ =>
          simp only [ho] at h
          split at h
          · rename_i q hq
            obtain ⟨x, s', h3, h4⟩ := wpOps_ok h
            exact ⟨x, s', Ev.succ (h3.mono fun k hk => by simp only [runOps, hw, ho, hq, Option.bind_some]; exact hk), h4⟩
          · exact h.elim

theorem wpAny_ok : ∀ {l : List POper} {s : S} {ts : List Tch} {Q : X → S → List Tch → Prop}, wpAny C l s ts Q → ∃ x s' ts', RunsA C l s ts x s' ts' ∧ Q x s' ts'
  | [], s, ts, Q, h => ⟨.nor, s, ts.reverse, Ev.succ (.all fun k => by simp [runAny]), h⟩
  | p :: r, s, ts, Q, h => by
    unfold wpAny at h
    cases hw : wanted p.g s.e with
    | none => rw [hw] at h; exact h.elim
    | some c =>
      rw [hw] at h
      cases c with
      | false =>
        obtain ⟨x, s', ts', h1, h2⟩ := wpAny_ok h
        exact ⟨x, s', ts', Ev.succ (h1.mono fun k hk => by simp only [runAny, hw]; exact hk), h2⟩
      | true =>
        simp only at h
        cases ho : p.o with
        | ca f args =>
          simp only [ho] at h
          obtain ⟨q, h1, h2⟩ := h
          split at h2
          · rename_i hp
            obtain ⟨h5, h6, h7⟩ := h2
            exact ⟨_, _, _, Ev.succ (h1.mono fun k hk => by simp only [runAny, hw, ho, hk, Option.bind_some, hp, h5, h6, Bool.and_self, if_true]), h7⟩
          · rename_i hp
            obtain ⟨x, s', ts', h3, h4⟩ := wpAny_ok h2
            exact ⟨x, s', ts', Ev.succ ((h1.and h3).mono fun k hk => by simp only [runAny, hw, ho, hk.1, Option.bind_some]; rw [if_neg hp]; exact hk.2), h4⟩
        | pa y => simp only [ho] at h
        | df f args => simp only [ho] at h
        | rc => simp only [ho] at h
        | _ =>
          simp only [ho] at h
          split at h
          · rename_i q hq
            obtain ⟨x, s', ts', h3, h4⟩ := wpAny_ok h
            exact ⟨x, s', ts', Ev.succ (h3.mono fun k hk => by simp only [runAny, hw, ho, hq, Option.bind_some]; exact hk), h4⟩
          · exact h.elim

theorem wpSegs_ok : ∀ {l : List Seg} {s : S} {Q : X → S → Prop}, wpSegs C l s Q → ∃ x s', RunsS C l s x s' ∧ Q x s'
  | [], s, Q, h => ⟨.nor, s, Ev.succ (.all fun k => by simp [runSegs]), h⟩
  | .seq ops :: r, s, Q, h => by
    simp only [wpSegs] at h
    obtain ⟨x, s1, h1, h2⟩ := wpOps_ok h
    cases x with
    | nor =>
      obtain ⟨x2, s2, h3, h4⟩ := wpSegs_ok h2
      exact ⟨x2, s2, Ev.succ ((h1.and h3).mono fun k hk => by simp only [runSegs, hk.1, Option.bind_some]; exact hk.2), h4⟩
    | _ => exact ⟨_, _, Ev.succ (h1.mono fun k hk => by simp only [runSegs, hk, Option.bind_some]), h2⟩
  | .any ops prs :: r, s, Q, h => by
    simp only [wpSegs] at h
    obtain ⟨x, s1, ts, h1, h2⟩ := wpAny_ok h
    cases x with
    | nor =>
      obtain ⟨h2, h3⟩ := h2
      obtain ⟨x2, s2, h4, h5⟩ := wpSegs_ok h3
      exact ⟨x2, s2, Ev.succ ((h1.and h4).mono fun k hk => by simp only [runSegs, hk.1, Option.bind_some, h2, if_true]; exact hk.2), h5⟩
    | _ => exact ⟨_, _, Ev.succ (h1.mono fun k hk => by simp only [runSegs, hk, Option.bind_some]), h2⟩

theorem wp_ok : ∀ {c : PCode} {s : S} {Q : X → S → Prop}, wp C c s Q → ∃ x s', Runs C c s x s' ∧ Q x s'
  | .skip, s, Q, h => ⟨.nor, s, Ev.succ (.all fun k => by simp [exec]), h⟩
  | .reg segs, s, Q, h => by
    simp only [wp] at h
    obtain ⟨x, s', h1, h2⟩ := wpSegs_ok h
    exact ⟨x, s', Ev.succ (h1.mono fun k hk => by simp only [exec]; exact hk), h2⟩
  | .seq a b, s, Q, h => by
    simp only [wp] at h
    obtain ⟨x, s1, h1, h2⟩ := wp_ok h
    cases x with
    | nor =>
      obtain ⟨x2, s2, h3, h4⟩ := wp_ok h2
      exact ⟨x2, s2, Ev.succ ((h1.and h3).mono fun k hk => by simp only [exec, hk.1, Option.bind_some]; exact hk.2), h4⟩
    | _ => exact ⟨_, _, Ev.succ (h1.mono fun k hk => by simp only [exec, hk, Option.bind_some]), h2⟩
  | .cond c a b, s, Q, h => by
    simp only [wp] at h
    split at h
    · rename_i t ht
      cases t with
      | true =>
        obtain ⟨x, s', h1, h2⟩ := wp_ok (by simpa using h)
        exact ⟨x, s', Ev.succ (h1.mono fun k hk => by simp only [exec, ht, if_true]; exact hk), h2⟩
      | false =>
        obtain ⟨x, s', h1, h2⟩ := wp_ok (by simpa using h)
        exact ⟨x, s', Ev.succ (h1.mono fun k hk => by simp only [exec, ht, Bool.false_eq_true, if_false]; exact hk), h2⟩
    · exact h.elim
  | .block id c, s, Q, h => by
    simp only [wp] at h
    obtain ⟨x, s1, h1, h2⟩ := wp_ok h
    cases x with
    | exit id' => exact ⟨_, _, Ev.succ (h1.mono fun k hk => by simp only [exec, hk, Option.bind_some]), h2⟩
    | _ => exact ⟨_, _, Ev.succ (h1.mono fun k hk => by simp only [exec, hk, Option.bind_some]), h2⟩
  | .loop c, s, Q, h => h
  | .scope c, s, Q, h => by
    simp only [wp] at h
    obtain ⟨x, s', h1, h2⟩ := wp_ok h
    exact ⟨x, s', Ev.succ (h1.mono fun k hk => by simp only [exec]; exact hk), h2⟩
  | .exit id, s, Q, h => ⟨_, _, Ev.succ (.all fun k => by simp only [exec]), h⟩
  | .ret, s, Q, h => ⟨_, _, Ev.succ (.all fun k => by simp only [exec]), h⟩
  | .rf f ps a b, s, Q, h => h

/-- A loop, by what holds at each round's start and a number that goes down. -/
theorem loop_ok {c : PCode} (Inv : Nat → S → Prop) {Q : X → S → Prop} (step : ∀ k s, Inv k s → wp C c s fun x s' => match x with | .nor => ∃ j, j < k ∧ Inv j s' | x => Q x s') :
    ∀ {k : Nat} {s : S}, Inv k s → ∃ x s', Runs C (.loop c) s x s' ∧ Q x s' := by
  intro k
  induction k using Nat.strongRecOn with
  | ind k ih =>
    intro s hs
    obtain ⟨x, s1, h1, h2⟩ := wp_ok (step k s hs)
    cases x with
    | nor =>
      obtain ⟨j, hj, h3⟩ := h2
      obtain ⟨x2, s2, h4, h5⟩ := ih j hj h3
      exact ⟨x2, s2, Ev.succ ((h1.and h4).mono fun k hk => by simp only [exec, hk.1, Option.bind_some]; exact hk.2), h5⟩
    | _ => exact ⟨_, _, Ev.succ (h1.mono fun k hk => by simp only [exec, hk, Option.bind_some]), h2⟩

theorem leav_none {F : PFun} {s : S} {v : V} (hd : s.ds = []) (h : result s.e s.m F.rs = some v) : Leav C F s none (.ret v) s.m s.x s.rv :=
  Ev.succ (.all fun k => by unfold leave; simp only [hd, h, Option.map_some])
theorem leav_pan {F : PFun} {s : S} {v : V} (hd : s.ds = []) : Leav C F s (some v) (.pan v) s.m s.x s.rv :=
  Ev.succ (.all fun k => by unfold leave; simp only [hd])
theorem leav_mark {F : PFun} {s : S} {pn : Option V} {l : Nat} {r : List D} {cr : CR} {m' : Sto} {x' : Nat} {rv' : Option V} (hd : s.ds = .mark l :: r) (hm : s.m l = some .dfr)
    (h : Leav C F { s with m := s.m.set l none, ds := r } pn cr m' x' rv') : Leav C F s pn cr m' x' rv' :=
  Ev.succ (h.mono fun k hk => by rw [leave.eq_def]; simp only [hd, hm]; exact hk)

/-- A closed call. -/
theorem call_closed {g : Nat} {first cap args : List V} {m : Sto} {x : Nat} (hp : C.prim g = none) (ho : C.opn g = false) (hq : C.frz g = false) {a : List V × List Nat} (hz : freezeL m (first ++ args ++ cap) = some a) {v : V} {m1 : Sto} {x1 : Nat} {rv1 : Option V}
    (h : Ent C g a.1 (fun _ => none) 0 none (.ret v) m1 x1 rv1) {w : V × List Nat} (hw : freeze m1 v = some w) :
    Call C (.fn (.func g) first cap) args m x (.ret w.1) (if w.1.scal then m else markRo m a.2) x :=
  Ev.succ (h.mono fun k hk => by unfold callV; simp only [hp, ho, hq, Bool.false_eq_true, if_false, hz, hk, Option.bind_some, hw])
/-- A closed call that makes what it answers anew. -/
theorem call_fresh {g : Nat} {first cap args : List V} {m : Sto} {x : Nat} (hp : C.prim g = none) (ho : C.opn g = false) (hq : C.frz g = true) {a : List V × List Nat} (hz : freezeL m (first ++ args ++ cap) = some a) {v : V} {m1 : Sto} {x1 : Nat} {rv1 : Option V}
    (h : Ent C g a.1 (fun _ => none) 0 none (.ret v) m1 x1 rv1) {w : V × Option (Nat × List V)} (hw : outV m1 x v = some w) :
    Call C (.fn (.func g) first cap) args m x (.ret w.1) (outM m x w.2) (outX x w.2) :=
  Ev.succ (h.mono fun k hk => by unfold callV; simp only [hp, ho, hq, Bool.false_eq_true, if_false, if_true, hz, hk, Option.bind_some, hw, Option.map_some])

/-- An open call. -/
theorem call_open {g : Nat} {first cap args : List V} {m : Sto} {x : Nat} (hp : C.prim g = none) (ho : C.opn g = true ∨ freezeL m (first ++ args ++ cap) = none) (hq : C.frz g = false) {cr : CR} {m1 : Sto} {x1 : Nat} {rv1 : Option V}
    (h : Ent C g (first ++ args ++ cap) m x none cr m1 x1 rv1) : Call C (.fn (.func g) first cap) args m x cr m1 x1 :=
  Ev.succ (h.mono fun k hk => by
    unfold callV
    have : (if C.opn g = true then none else freezeL m (first ++ args ++ cap)) = none := by
      rcases ho with ho | ho
      · rw [if_pos ho]
      · rw [ho]; split <;> rfl
    simp only [hp, this, hk, hq, Option.bind_some, Bool.false_eq_true, if_false]
    cases cr <;> rfl)
/-- An open call, what it answers frozen. -/
theorem call_frz {g : Nat} {first cap args : List V} {m : Sto} {x : Nat} (hp : C.prim g = none) (ho : C.opn g = true ∨ freezeL m (first ++ args ++ cap) = none) (hq : C.frz g = true) {v : V} {m1 : Sto} {x1 : Nat} {rv1 : Option V}
    (h : Ent C g (first ++ args ++ cap) m x none (.ret v) m1 x1 rv1) {w : V × List Nat} (hw : freeze m1 v = some w) : Call C (.fn (.func g) first cap) args m x (.ret w.1) (if w.1.scal then m1 else markRo m1 w.2) x1 :=
  Ev.succ (h.mono fun k hk => by
    unfold callV
    have : (if C.opn g = true then none else freezeL m (first ++ args ++ cap)) = none := by
      rcases ho with ho | ho
      · rw [if_pos ho]
      · rw [ho]; split <;> rfl
    simp only [hp, this, hk, hq, Option.bind_some, if_true, hw, Option.map_some])
theorem call_frzp {g : Nat} {first cap args : List V} {m : Sto} {x : Nat} (hp : C.prim g = none) (ho : C.opn g = true ∨ freezeL m (first ++ args ++ cap) = none) {v : V} {m1 : Sto} {x1 : Nat} {rv1 : Option V}
    (h : Ent C g (first ++ args ++ cap) m x none (.pan v) m1 x1 rv1) : Call C (.fn (.func g) first cap) args m x (.pan v) m1 x1 :=
  Ev.succ (h.mono fun k hk => by
    unfold callV
    have : (if C.opn g = true then none else freezeL m (first ++ args ++ cap)) = none := by
      rcases ho with ho | ho
      · rw [if_pos ho]
      · rw [ho]; split <;> rfl
    simp only [hp, this, hk, Option.bind_some])

end
end Pi


/- More fuel tells the same. -/
namespace Pi
open Go (IntKind TypeId FuncId Fn BinOp UnOp LoopState)

section
variable {C : Ctx}

structure More (C : Ctx) (n : Nat) : Prop where
  exec : ∀ {c s r}, exec C n c s = some r → exec C (n + 1) c s = some r
  segs : ∀ {c s r}, runSegs C n c s = some r → runSegs C (n + 1) c s = some r
  ops : ∀ {c s r}, runOps C n c s = some r → runOps C (n + 1) c s = some r
  any : ∀ {c s t r}, runAny C n c s t = some r → runAny C (n + 1) c s t = some r
  quiet : ∀ {f a m x r}, callQ C n f a m x = some r → callQ C (n + 1) f a m x = some r
  call : ∀ {f a m x r}, callV C n f a m x = some r → callV C (n + 1) f a m x = some r
  enter : ∀ {g a m x v r}, enter C n g a m x v = some r → enter C (n + 1) g a m x v = some r
  leave : ∀ {F s p r}, leave C n F s p = some r → leave C (n + 1) F s p = some r

theorem bind_more {α β : Type} {a a' : Option α} {f f' : α → Option β} {r : β} (h : a.bind f = some r) (h1 : ∀ x, a = some x → a' = some x) (h2 : ∀ x, f x = some r → f' x = some r) : a'.bind f' = some r := by
  obtain ⟨x, hx, hr⟩ := Option.bind_eq_some_iff.1 h
  rw [h1 x hx]
  exact h2 x hr

theorem more : ∀ n, More C n
  | 0 => ⟨fun h => by simp [Pi.exec] at h, fun h => by simp [runSegs] at h, fun h => by simp [runOps] at h, fun h => by simp [runAny] at h, fun h => by simp [callQ] at h, fun h => by simp [callV] at h, fun h => by simp [Pi.enter] at h, fun h => by simp [Pi.leave] at h⟩
  | n + 1 => by
    have ih := more n
    refine ⟨?_, ?_, ?_, ?_, ?_, ?_, ?_, ?_⟩
    · intro c s r h
      cases c with
      | skip => simpa [Pi.exec] using h
      | reg segs => simp only [Pi.exec] at h ⊢; exact ih.segs h
      | seq a b =>
        simp only [Pi.exec] at h ⊢
        refine bind_more h (fun _ => ih.exec) fun x hx => ?_
        split at hx <;> first | exact ih.exec hx | exact hx
      | cond c a b =>
        simp only [Pi.exec] at h ⊢
        split at h
        · rename_i t ht; exact ih.exec h
        · cases h
      | block id c =>
        simp only [Pi.exec] at h ⊢
        exact bind_more h (fun _ => ih.exec) fun x hx => hx
      | loop c =>
        rw [Pi.exec.eq_def] at h ⊢
        simp only at h ⊢
        refine bind_more h (fun _ => ih.exec) fun x hx => ?_
        split at hx <;> first | exact ih.exec hx | exact hx
      | scope c => simp only [Pi.exec] at h ⊢; exact ih.exec h
      | exit id => simpa [Pi.exec] using h
      | ret => simpa [Pi.exec] using h
      | rf f ps a b =>
        simp only [Pi.exec] at h ⊢
        split at h
        · cases h
        · rename_i hir
          rw [if_neg hir]
          exact bind_more h (fun _ => ih.call) fun x hx => hx
    · intro c s r h
      cases c with
      | nil => simpa [runSegs] using h
      | cons p l =>
        cases p with
        | seq ops =>
          simp only [runSegs] at h ⊢
          refine bind_more h (fun _ => ih.ops) fun x hx => ?_
          split at hx <;> first | exact ih.segs hx | exact hx
        | any ops prs =>
          simp only [runSegs] at h ⊢
          refine bind_more h (fun _ => ih.any) fun x hx => ?_
          split at hx
          · split at hx
            · rename_i hc; rw [if_pos hc]; exact ih.segs hx
            · cases hx
          · exact hx
    · intro c s r h
      cases c with
      | nil => simpa [runOps] using h
      | cons p l =>
        simp only [runOps] at h ⊢
        cases hw : wanted p.g s.e with
        | none => rw [hw] at h; cases h
        | some c =>
          rw [hw] at h
          cases c with
          | false => exact ih.ops h
          | true =>
            simp only at h ⊢
            cases ho : p.o with
            | ca f args =>
              simp only [ho] at h ⊢
              refine bind_more h (fun _ => ih.call) fun x hx => ?_
              split at hx
              · rename_i v hv; try rw [hv]
                exact ih.ops hx
              · rename_i v hv; try rw [hv]
                exact hx
            | pa y => simp only [ho] at h ⊢; exact h
            | df f args =>
              simp only [ho] at h ⊢
              split at h
              · split at h
                · cases h
                · rename_i hc; rw [if_neg hc]; exact ih.ops h
              · cases h
            | rc =>
              simp only [ho] at h ⊢
              split at h
              · exact ih.ops h
              · cases h
            | _ =>
              simp only [ho] at h ⊢
              exact bind_more h (fun _ hx => hx) fun x hx => ih.ops hx
    · intro c s t r h
      cases c with
      | nil => simpa [runAny] using h
      | cons p l =>
        simp only [runAny] at h ⊢
        cases hw : wanted p.g s.e with
        | none => rw [hw] at h; cases h
        | some c =>
          rw [hw] at h
          cases c with
          | false => exact ih.any h
          | true =>
            simp only at h ⊢
            cases ho : p.o with
            | ca f args =>
              simp only [ho] at h ⊢
              refine bind_more h (fun _ => ih.quiet) fun x hx => ?_
              split at hx
              · rename_i hp; rw [if_pos hp]; exact hx
              · rename_i hp; rw [if_neg hp]; exact ih.any hx
            | pa y => simp only [ho] at h; cases h
            | df f args => simp only [ho] at h; cases h
            | rc => simp only [ho] at h; cases h
            | _ =>
              simp only [ho] at h ⊢
              exact bind_more h (fun _ hx => hx) fun x hx => ih.any hx
    · intro f a m x r h
      unfold callQ at h
      rw [callQ.eq_def]
      simp only at h ⊢
      split at h
      · split at h
        · rename_i hp; first | (simp only [hp]; exact h) | exact h
        · rename_i hp
          try simp only [hp]
          split at h
          · rename_i ho
            rw [if_pos ho]
            refine bind_more h (fun _ hx => hx) fun z hz => ?_
            split at hz
            · rename_i hn
              rw [if_pos hn]
              split at hz
              · cases hz
              · rename_i hk
                rw [if_neg hk]
                exact bind_more hz (fun _ => ih.enter) fun y hy => hy
            · rename_i hn
              rw [if_neg hn]
              exact bind_more hz (fun _ => ih.enter) fun y hy => hy
          · rename_i ho
            rw [if_neg ho]
            exact bind_more h (fun _ hx => hx) fun z hz => bind_more hz (fun _ => ih.enter) fun y hy => hy
      · cases h
    · intro f a m x r h
      unfold callV at h
      rw [callV.eq_def]
      simp only at h ⊢
      split at h
      · split at h
        · rename_i hp; first | (simp only [hp]; exact h) | exact h
        · rename_i hp
          try simp only [hp]
          split at h
          · rename_i hf
            try simp only [hf]
            exact bind_more h (fun _ => ih.enter) fun y hy => hy
          · rename_i z hf
            try simp only [hf]
            exact bind_more h (fun _ => ih.enter) fun y hy => hy
      · split at h
        · rename_i q hq
          try simp only [hq]
          split at h
          · rename_i hst
            rw [if_pos hst]
            refine bind_more h (fun _ hx => hx) fun e he => bind_more he (fun _ => ih.exec) fun y hy => ?_
            split at hy
            · split at hy
              · rename_i q' hq'
                split at hy
                · cases hy
                · rename_i hst'
                  rename_i hnor
                  try simp only [hnor, hq']
                  rw [if_neg hst']
                  exact bind_more hy (fun _ => ih.exec) fun z hz => hz
              · cases hy
            · cases hy
          · cases h
        · cases h
      · cases h
    · intro g a m x v r h
      simp only [Pi.enter] at h ⊢
      refine bind_more h (fun _ hx => hx) fun F hF => bind_more hF (fun _ => ih.exec) fun y hy => ?_
      split at hy
      · rename_i v hv; (try simp only [hv]); exact ih.leave hy
      · rename_i hv; (try simp only [hv]); exact ih.leave hy
      · rename_i hv; (try simp only [hv]); exact ih.leave hy
      · cases hy
    · intro F s p r h
      unfold Pi.leave at h
      rw [Pi.leave.eq_def]
      simp only at h ⊢
      split at h
      · rename_i hd; first | (simp only [hd]; exact h) | exact h
      · rename_i l rr hd
        try simp only [hd]
        split at h
        · rename_i hm; (try simp only [hm]); exact ih.leave h
        · cases h
      · rename_i f args rr hd
        try simp only [hd]
        split at h
        · refine bind_more h (fun _ => ih.enter) fun y hy => ?_
          split at hy
          · cases hy
          · rename_i v hv; (try simp only [hv]); exact ih.leave hy
        · cases h

theorem ent_of {n g : Nat} {as : List V} {m : Sto} {x : Nat} {rv : Option V} {cr : CR} {m' : Sto} {x' : Nat} {rv' : Option V} (h : enter C n g as m x rv = some (cr, m', x', rv')) : Ent C g as m x rv cr m' x' rv' := by
  refine ⟨n, fun k hk => ?_⟩
  induction hk with
  | refl => exact h
  | step _ ih => exact (more _).enter ih

end
end Pi


/- Rules for calls, rounds and answers. -/
namespace Pi
open Go (IntKind TypeId FuncId Fn BinOp UnOp LoopState)

section
variable {C : Ctx}

/-- What a function answers, called closed: its value, frozen. -/
def Ans (C : Ctx) (g : Nat) (vs : List V) (w : V) : Prop := ∃ v m' x' rv' ids, Ent C g vs (fun _ => none) 0 none (.ret v) m' x' rv' ∧ freeze m' v = some (w, ids)

/-- What is asked of a state that a function leaves: what was put off are marks; then its value. -/
def DoneD (rs : List RVar) (e : Env) : List D → Sto → (V → Sto → Prop) → Prop
  | [], m, K => ∃ v, result e m rs = some v ∧ K v m
  | .mark l :: r, m, K => m l = some .dfr ∧ DoneD rs e r (m.set l none) K
  | .call _ _ :: _, _, _ => False
def Done (rs : List RVar) (s : S) (K : V → Sto → Prop) : Prop := DoneD rs s.e s.ds s.m K
/-- Its value, frozen. -/
def Frz (w : V) (v : V) (m : Sto) : Prop := ∃ ids, freeze m v = some (w, ids)

theorem fin_leav {F : PFun} {e : Env} {x : Nat} {rv : Option V} {rd : Option Nat} {K : V → Sto → Prop} : ∀ {ds : List D} {m : Sto}, DoneD F.rs e ds m K → ∃ v m', Leav C F ⟨e, m, x, ds, rv, rd⟩ none (.ret v) m' x rv ∧ K v m'
  | [], m, ⟨v, h1, h2⟩ => ⟨v, m, leav_none rfl h1, h2⟩
  | .mark l :: r, m, ⟨h1, h2⟩ => by
    obtain ⟨v, m', h3, h4⟩ := fin_leav (x := x) (rv := rv) (rd := rd) h2
    exact ⟨v, m', leav_mark rfl h1 h3, h4⟩
  | .call _ _ :: _, _, h => h.elim

theorem ans_fin {g : Nat} {F : PFun} {vs : List V} {w : V} (hF : C.fns g = some F)
    (h : wp C F.code ⟨envOf vs, fun _ => none, 0, [], none, none⟩ fun xx s' => (xx = .ret ∨ xx = .nor) ∧ Done F.rs s' (Frz w)) : Ans C g vs w := by
  obtain ⟨xx, ⟨e', m', x', ds, rv, rd⟩, h1, h2, h3⟩ := wp_ok h
  obtain ⟨v, m2, h4, ids, h5⟩ := fin_leav (C := C) (x := x') (rv := rv) (rd := rd) h3
  refine ⟨v, m2, x', rv, ids, Ev.succ ((h1.and h4).mono fun k hk => ?_), h5⟩
  simp only [enter, hF, Option.bind_some, hk.1]
  rcases h2 with rfl | rfl <;> exact hk.2

/-- An open call. -/
theorem wpCall_op {g : Nat} {F : PFun} {first cap args : List V} {m : Sto} {x : Nat} {K : CR → Sto → Nat → Prop} (hp : C.prim g = none) (ho : C.opn g = true ∨ freezeL m (first ++ args ++ cap) = none) (hq : C.frz g = false) (hF : C.fns g = some F)
    (h : wp C F.code ⟨envOf (first ++ args ++ cap), m, x, [], none, none⟩ fun xx s' => (xx = .ret ∨ xx = .nor) ∧ Done F.rs s' fun v m' => K (.ret v) m' s'.x) : wpCall C (.fn (.func g) first cap) args m x K := by
  obtain ⟨xx, ⟨e', m', x', ds, rv, rd⟩, h1, h2, h3⟩ := wp_ok h
  obtain ⟨v, m2, h4, h5⟩ := fin_leav (C := C) (x := x') (rv := rv) (rd := rd) h3
  refine ⟨.ret v, m2, x', call_open (rv1 := rv) hp ho hq (Ev.succ ((h1.and h4).mono fun k hk => ?_)), h5⟩
  simp only [enter, hF, Option.bind_some, hk.1]
  rcases h2 with rfl | rfl <;> exact hk.2

theorem ans_run {n g : Nat} {vs : List V} {v : V} {r : CR × Sto × Nat × Option V} (h : enter C n g vs (fun _ => none) 0 none = some r) (hr : r.1 = .ret v) {w : V} {ids : List Nat} (hf : freeze r.2.1 v = some (w, ids)) : Ans C g vs w := by
  obtain ⟨cr, m', x', rv'⟩ := r
  simp only at hr hf
  subst hr
  exact ⟨v, m', x', rv', ids, ent_of h, hf⟩

/-- A function without symbols: it is run. -/
def told (o : Option (CR × Sto × Nat × Option V)) : Option V := match o with | some (.ret v, m, _) => (freeze m v).map Prod.fst | _ => none
theorem ans_told {n g : Nat} {vs : List V} {w : V} (h : told (enter C n g vs (fun _ => none) 0 none) = some w) : Ans C g vs w := by
  unfold told at h
  split at h
  · rename_i v m p he
    obtain ⟨⟨w', ids⟩, h1, rfl⟩ := Option.map_eq_some_iff.1 h
    exact ans_run he rfl h1
  · cases h

/-- A closed call. -/
theorem wpCall_closed {g : Nat} {first cap args : List V} {m : Sto} {x : Nat} {K : CR → Sto → Nat → Prop} (hp : C.prim g = none) (ho : C.opn g = false) (hq : C.frz g = false) {a : List V × List Nat} (hz : freezeL m (first ++ args ++ cap) = some a) {w : V} (h : Ans C g a.1 w) :
    wpCall C (.fn (.func g) first cap) args m x K = K (.ret w) (if w.scal then m else markRo m a.2) x := by
  obtain ⟨v, m', x', rv', ids, h1, h2⟩ := h
  exact wpCall_eq (call_closed hp ho hq hz h1 h2)
/-- What a function answers, called closed, all of it made anew. -/
def AnsF (C : Ctx) (g : Nat) (vs : List V) (u : Nat → V) (cs : Option (List V)) : Prop := ∃ v m' x' rv', Ent C g vs (fun _ => none) 0 none (.ret v) m' x' rv' ∧ ∀ x, (outV m' x v).map (fun p => (p.1, p.2.map Prod.snd)) = some (u x, cs)
def fM (m : Sto) (x : Nat) : Option (List V) → Sto
  | none => m
  | some cs => m.set x (some (.cells cs false))
def fX (x : Nat) : Option (List V) → Nat
  | none => x
  | some _ => x + 1
theorem wpCall_fresh {g : Nat} {first cap args : List V} {m : Sto} {x : Nat} {K : CR → Sto → Nat → Prop} (hp : C.prim g = none) (ho : C.opn g = false) (hq : C.frz g = true) {a : List V × List Nat} (hz : freezeL m (first ++ args ++ cap) = some a) {u : Nat → V} {cs : Option (List V)} (h : AnsF C g a.1 u cs) :
    wpCall C (.fn (.func g) first cap) args m x K = K (.ret (u x)) (fM m x cs) (fX x cs) := by
  obtain ⟨v, m', x', rv', h1, h2⟩ := h
  obtain ⟨p, h3, h4⟩ := Option.map_eq_some_iff.1 (h2 x)
  rw [wpCall_eq (call_fresh hp ho hq hz h1 h3)]
  simp only [Prod.mk.injEq] at h4
  obtain ⟨h4, rfl⟩ := h4
  rw [h4]
  obtain ⟨p1, p2⟩ := p
  cases p2 <;> rfl

theorem wpQuiet_closed {g : Nat} {first cap args : List V} {m : Sto} {x : Nat} {K : QR → Prop} (hp : C.prim g = none) (ho : C.opn g = false) {a : List V × List Nat} (hz : freezeL m (first ++ args ++ cap) = some a) {w : V} (h : Ans C g a.1 w)
    : wpQuiet C (.fn (.func g) first cap) args m x K = K ⟨w, mkWs w m a.2, a.2, x, false⟩ := by
  obtain ⟨v, m', x', rv', ids, h1, h2⟩ := h
  refine wpQuiet_eq (Ev.succ (h1.mono fun k hk => ?_))
  unfold callQ
  simp only [hp, ho, Bool.false_eq_true, if_false, hz, hk, Option.bind_some, h2]

/-- A value handed to a loop over a function. -/
theorem wpCall_yield {ll : Nat} {args : List V} {m : Sto} {x : Nat} {K : CR → Sto → Nat → Prop} {q : LoopRec} (hm : m ll = some (.loop q)) (hst : q.st = .ready) {e : Env} (he : setAll q.e q.ps args = some e)
    (h : wp C q.asg ⟨e, m, x, [], none, some ll⟩ fun xx s1 => xx = .nor ∧ ∃ q', s1.m ll = some (.loop q') ∧ q'.st = .ready ∧
      wp C q.body { s1 with m := s1.m.set ll (some (.loop { q' with st := .busy })) } fun z s2 => s2.ds = [] ∧ match z with
        | .pan v => K (.pan v) s2.m s2.x
        | .nor => ∃ q'', s2.m ll = some (.loop q'') ∧ K (.ret (.b true)) (s2.m.set ll (some (.loop { q'' with st := .ready, pend := none }))) s2.x
        | y => ∃ q'', s2.m ll = some (.loop q'') ∧ K (.ret (.b false)) (s2.m.set ll (some (.loop { q'' with st := .done, pend := some y }))) s2.x) :
    wpCall C (.fn (.yield ll) [] []) args m x K := by
  obtain ⟨xx, s1, h1, rfl, q', h2, h3, h4⟩ := wp_ok h
  obtain ⟨z, s2, h5, h6, h7⟩ := wp_ok h4
  have hds : (!s2.ds.isEmpty) = false := by rw [h6]; rfl
  have run : ∀ {cr m' x'}, (∀ k, exec C k q.body { s1 with m := s1.m.set ll (some (.loop { q' with st := .busy })) } = some (z, s2) → (match z, s2.m ll with
      | .pan v, _ => some (.pan v, s2.m, s2.x)
      | .nor, some (.loop q'') => some (.ret (.b true), s2.m.set ll (some (.loop { q'' with st := .ready, pend := none })), s2.x)
      | y, some (.loop q'') => some (.ret (.b false), s2.m.set ll (some (.loop { q'' with st := .done, pend := some y })), s2.x)
      | _, _ => none) = some (cr, m', x')) → Call C (.fn (.yield ll) [] []) args m x cr m' x' := by
    intro cr m' x' hh
    refine Ev.succ ((h1.and h5).mono fun k hk => ?_)
    rw [callV.eq_def]
    simp only [hm, hst, if_true, he, Option.bind_some, hk.1, h2]
    rw [if_neg (by simp [h3])]
    simp only [hk.2, Option.bind_some, hds, Bool.false_eq_true, if_false]
    exact hh k hk.2
  cases z with
  | pan v => exact ⟨_, _, _, run (fun k hk => rfl), h7⟩
  | nor => obtain ⟨q'', h8, h9⟩ := h7; exact ⟨_, _, _, run (fun k hk => by simp only [h8]), h9⟩
  | ret => obtain ⟨q'', h8, h9⟩ := h7; exact ⟨_, _, _, run (fun k hk => by simp only [h8]), h9⟩
  | exit id => obtain ⟨q'', h8, h9⟩ := h7; exact ⟨_, _, _, run (fun k hk => by simp only [h8]), h9⟩

/-- A loop over a function. -/
theorem rf_ok {f : Opd} {ps : List Nat} {a b : PCode} {s : S} {Q : X → S → Prop} (hrd : s.rd = none)
    (h : wpCall C (f.ev s.e) [.fn (.yield (s.x + 1)) [] []] ((s.m.set s.x (some .dfr)).set (s.x + 1) (some (.loop ⟨s.e, ps, a, b, .ready, none⟩))) (s.x + 2) fun cr m' x' => match cr with
      | .pan v => Q (.pan v) { s with m := m', x := x', ds := .mark s.x :: s.ds }
      | .ret _ => ∃ q, m' (s.x + 1) = some (.loop q) ∧ q.st ≠ .busy ∧ Q (match q.pend with | none => .nor | some y => y) { s with m := m'.set (s.x + 1) none, x := x', ds := .mark s.x :: s.ds }) :
    ∃ xx s', Runs C (.rf f ps a b) s xx s' ∧ Q xx s' := by
  obtain ⟨cr, m', x', h1, h2⟩ := h
  have hir : inRound s = true := by simp [inRound, hrd]
  cases cr with
  | pan v =>
    refine ⟨_, _, Ev.succ (h1.mono fun k hk => ?_), h2⟩
    rw [exec.eq_def]
    simp only [hrd, Option.isSome_none, Bool.false_eq_true, if_false, hir, Bool.not_true]
    rw [hk]
    rfl
  | ret v =>
    obtain ⟨q, h3, h4, h5⟩ := h2
    refine ⟨_, _, Ev.succ (h1.mono fun k hk => ?_), h5⟩
    rw [exec.eq_def]
    simp only [hrd, Option.isSome_none, Bool.false_eq_true, if_false, hir, Bool.not_true]
    rw [hk]
    simp only [Option.bind_some, h3, h4, if_false]
    rfl

end
end Pi


/- From an answer to the machine's call. -/
namespace Pi
open Go (Value World Program)

theorem frz_true {m : Sto} {v : V} {r : List Nat} {b : Bool} (h : freeze m v = some (.b b, r)) : v = .b b := by
  unfold freeze at h
  cases v <;> simp [frzW, Option.bind_eq_some_iff] at h
  case b x => rw [h.1]
  case fn f a c => split at h <;> simp [Option.bind_eq_some_iff] at h

theorem law_of_ans {P : Program} {C : Ctx} (lk : Lnk P C) {g : Nat} {vs : List V} (h : Ans C g vs (.b true)) {w : World} {args : Array Value} {ro : Ro}
    (hro : ∀ b o, ro b = some o → w.heap[b]? = some o) (ha : PR ro vs noRho args.toList) (hl : vs.length = args.size) :
    Go.Calls P g args w (fun e w' => e = .returned (.bool true) ∧ Go.RowKit.Below w.heap.size w w') := by
  obtain ⟨v, m', x', rv', ids, ⟨n, h1⟩, h2⟩ := h
  have := frz_true h2
  subst this
  exact law_of_enter lk (h1 n (Nat.le_refl _)) hro ha hl
end Pi


/- From what is handed to a law to pure values, and back. -/
namespace Pi
open Go (IntKind TypeId Value Addr World Program DataW MemPlace Lit maxLen)

mutual
/-- Cells of a type: numbers, truths, texts, and what is made of them. -/
def Tv (P : Program) : Nat → TypeId → List V → Prop
  | 0, _, _ => False
  | n + 1, t, vs => match P.underlying t with
    | some .bool => ∃ b, vs = [.b b]
    | some (.int k) => ∃ x, vs = [.i k x] ∧ (Lit.int k x).wf = true
    | some .string => ∃ s, vs = [.s s] ∧ s.size ≤ 140737488351232
    | some (.slice e) => ∃ els : List (List V), vs = [.sl els.flatten els.length] ∧ els.length ≤ 140737488351232 ∧ ∀ p ∈ els, p.length = P.cellsOf e ∧ Tv P n e p
    | some (.struct fs) => TvF P n (fs.toList.map (·.type)) vs
    | _ => False
def TvF (P : Program) : Nat → List TypeId → List V → Prop
  | n, [], vs => vs = []
  | n, t :: ts, vs => ∃ p r, vs = p ++ r ∧ p.length = P.cellsOf t ∧ Tv P n t p ∧ TvF P n ts r
end

theorem TvF_nil {P : Program} {n : Nat} {vs : List V} : TvF P n [] vs = (vs = []) := by simp [TvF]
theorem TvF_cons {P : Program} {n : Nat} {t : TypeId} {ts : List TypeId} {vs : List V} : TvF P n (t :: ts) vs = ∃ p r, vs = p ++ r ∧ p.length = P.cellsOf t ∧ Tv P n t p ∧ TvF P n ts r := by simp [TvF]

/-- Types that are so made: a list of them that holds all that they are made of. -/
def fit (P : Program) : Nat → List Go.Field → Option Nat
  | o, [] => some o
  | o, f :: fs => if f.offset = o then fit P (o + P.cellsOf f.type) fs else none
def okT (P : Program) (l : List TypeId) : Bool := l.all fun t => match P.underlying t with
  | some .bool | some (.int _) | some .string => true
  | some (.slice e) => l.contains e && decide (0 < P.cellsOf e) && decide (0 < P.bytesOf e)
  | some (.struct fs) => (fs.toList.all fun f => l.contains f.type) && (fit P 0 fs.toList == some (P.cellsOf t))
  | _ => false

theorem cells_at {w : World} {base : Nat} {a : Addr} {n : Nat} {cs : List Value} (h : w.cells? base a n = some cs) (hn : 0 < n) :
    ∃ arr e f, w.heap[a.block]? = some (.cells arr e f) ∧ a.spot = none ∧ cs = (arr.toList.drop a.off).take n ∧ cs.length = n := by
  unfold World.cells? at h
  split at h
  · have hl := Go.mapM_some_length h
    simp at hl
    have hg := Go.mapM_some_get h
    have h0 := hg 0 0 (by simp [hn])
    have hc0 : cs[0]? = some cs[0] := List.getElem?_eq_getElem (by omega)
    rw [hc0] at h0
    simp only [Addr.add, if_true] at h0
    unfold World.cell? at h0
    split at h0
    · rename_i c e f hb
      split at h0
      · cases h0
      · rename_i hs
        have hs' : a.spot = none := by cases ha : a.spot <;> simp_all
        refine ⟨c, e, f, hb, hs', ?_, hl⟩
        apply List.ext_getElem?
        intro i
        by_cases hi : i < n
        · have h1 := hg i i (by simp [hi])
          have : w.cell? (a.add i) = c[a.off + i]? := by
            have e1 : (a.add i).block = a.block := by unfold Addr.add; split <;> rfl
            have e2 : (a.add i).off = a.off + i := by
              unfold Addr.add
              split
              · rename_i hi0; rw [hi0]; rfl
              · rfl
            have e3 : (a.add i).spot = none := by
              unfold Addr.add
              split
              · exact hs'
              · rfl
            unfold World.cell?
            rw [e1, hb]
            simp [e2, e3]
          rw [this] at h1
          rw [← h1, List.getElem?_take, if_pos hi, List.getElem?_drop]
          simp
        · rw [List.getElem?_eq_none (by omega), List.getElem?_take, if_neg hi]
    · cases h0
  · cases h

theorem PR.wide {ro : Ro} {h : Rho} {cs : List V} {l k : List Value} (r : PR ro cs h l) : PR ro cs h (l ++ k) := by
  have := r.len
  refine .mk (by simp; omega) fun i c v hc hv => ?_
  have hi : i < cs.length := by
    rcases Nat.lt_or_ge i cs.length with h | h
    · exact h
    · rw [List.getElem?_eq_none h] at hc; cases hc
  rw [List.getElem?_append_left (by omega)] at hv
  exact r.at hc hv

section
variable {H : Type} {enc : TypeId × Value → H} {P : Program} {w : World} {base : Nat} {spare : Nat → Bool} {held : Bool} {l : List TypeId}

def heapRo (w : World) : Ro := fun b => w.heap[b]?

theorem okT_at (ok : okT P l = true) {t : TypeId} (ht : t ∈ l) : (match P.underlying t with
  | some .bool | some (.int _) | some .string => true
  | some (.slice e) => l.contains e && decide (0 < P.cellsOf e) && decide (0 < P.bytesOf e)
  | some (.struct fs) => (fs.toList.all fun f => l.contains f.type) && (fit P 0 fs.toList == some (P.cellsOf t))
  | _ => false) = true := by
  unfold okT at ok
  exact List.all_eq_true.1 ok t ht

theorem wt_all {e : TypeId} : ∀ {ds : List (DataW H)} {i : Nat} {d : DataW H}, ds[i]? = some d → ∀ x ∈ d.weights P e, x ∈ DataW.weightsAll P e ds
  | [], i, d, h, x, hx => by simp at h
  | c :: ds, 0, d, h, x, hx => by
    simp only [List.getElem?_cons_zero, Option.some.injEq] at h
    subst h
    simp [DataW.weightsAll, hx]
  | c :: ds, i + 1, d, h, x, hx => by
    simp only [DataW.weightsAll, List.mem_append]
    exact .inr (wt_all (by simpa using h) x hx)
theorem wt_each : ∀ {ts : List TypeId} {ds : List (DataW H)} {i : Nat} {t : TypeId} {d : DataW H}, ts[i]? = some t → ds[i]? = some d → ∀ x ∈ d.weights P t, x ∈ DataW.weightsEach P ts ds
  | [], _, i, t, d, h, _, x, hx => by simp at h
  | _ :: _, [], i, t, d, _, h, x, hx => by simp at h
  | t' :: ts, c :: ds, 0, t, d, h1, h, x, hx => by
    simp only [List.getElem?_cons_zero, Option.some.injEq] at h h1
    subst h h1
    simp [DataW.weightsEach, hx]
  | t' :: ts, c :: ds, i + 1, t, d, h1, h, x, hx => by
    simp only [DataW.weightsEach, List.mem_append]
    exact .inr (wt_each (by simpa using h1) (by simpa using h) x hx)
/-- No text and no list is longer than memory reaches. -/
def Wt (P : Program) (t : TypeId) (d : DataW H) : Prop := ∀ x ∈ d.weights P t, x ≤ Go.reachBytes
theorem tv_fields {n : Nat} {cs : List Value} (ih : ∀ t ∈ l, ∀ cs x, DataW.trod enc P w base spare held n t cs = some x → Wt P t x.1 → ∃ vs, vs.length = cs.length ∧ PR (heapRo w) vs noRho cs ∧ OneL cs ∧ Tv P n t vs) :
    ∀ (fs : List Go.Field) (o e : Nat), fit P o fs = some e → (∀ f ∈ fs, f.type ∈ l) → e = cs.length → (∀ f ∈ fs, ∃ x, DataW.trod enc P w base spare held n f.type ((cs.drop f.offset).take (P.cellsOf f.type)) = some x ∧ Wt P f.type x.1) →
      ∃ vs, vs.length = (cs.drop o).length ∧ PR (heapRo w) vs noRho (cs.drop o) ∧ OneL (cs.drop o) ∧ TvF P n (fs.map (·.type)) vs
  | [], o, e, hf, hl, he, ht => by
    simp only [fit, Option.some.injEq] at hf
    have : cs.drop o = [] := List.drop_of_length_le (by omega)
    rw [this]
    refine ⟨[], rfl, by simp [PR], by intro v hv; simp at hv, ?_⟩
    rw [List.map_nil, TvF_nil]
  | f :: fs, o, e, hf, hl, he, ht => by
    simp only [fit] at hf
    split at hf
    · rename_i ho
      obtain ⟨x, hx, hxw⟩ := ht f (by simp)
      obtain ⟨p, p1, p2, p3, p4⟩ := ih f.type (hl f (by simp)) _ x hx hxw
      obtain ⟨r, r1, r2, r3, r4⟩ := tv_fields ih fs _ e hf (fun g hg => hl g (by simp [hg])) he (fun g hg => ht g (by simp [hg]))
      have mono : ∀ (fs : List Go.Field) (o e : Nat), fit P o fs = some e → o ≤ e := by
        intro fs
        induction fs with
        | nil => intro o e h; simp only [fit, Option.some.injEq] at h; omega
        | cons g gs ihg =>
          intro o e h
          simp only [fit] at h
          split at h
          · have := ihg _ _ h; omega
          · cases h
      have hle := mono _ _ _ hf
      have hpl : p.length = P.cellsOf f.type := by
        rw [p1, List.length_take, List.length_drop]
        omega
      have hsplit : cs.drop o = (cs.drop o).take (P.cellsOf f.type) ++ cs.drop (o + P.cellsOf f.type) := by
        rw [← List.drop_drop, List.take_append_drop]
      rw [ho] at p1 p2 p3
      refine ⟨p ++ r, ?_, ?_, ?_, by rw [List.map_cons, TvF_cons]; exact ⟨p, r, rfl, hpl, p4, r4⟩⟩
      · rw [List.length_append, p1, r1, ← List.length_append, ← hsplit]
      · rw [hsplit]
        exact p2.append p1 r2
      · rw [hsplit]
        intro v hv
        exact (List.mem_append.1 hv).elim (p3 v) (r3 v)
    · cases hf

/-- What is read as data is made of pure cells. -/
theorem tv_open (ok : okT P l = true) : ∀ (n : Nat), ∀ t ∈ l, ∀ cs x, DataW.trod enc P w base spare held n t cs = some x → Wt P t x.1 → ∃ vs, vs.length = cs.length ∧ PR (heapRo w) vs noRho cs ∧ OneL cs ∧ Tv P n t vs := by
  intro n
  induction n with
  | zero => intro t ht cs x h; simp [DataW.trod] at h
  | succ n ih =>
    intro t ht cs x h hwt
    have hk := okT_at ok ht
    split at hk
    · rename_i hu
      unfold DataW.trod at h
      rw [hu] at h
      split at h <;> simp_all
      rename_i b
      exact ⟨[.b b], by simp, by simp [PR, VR], by intro v hv; simp at hv; subst hv; rfl, by simp [Tv, hu]⟩
    · rename_i k hu
      obtain ⟨m, rfl, rfl, hw⟩ := DataW.trod_int hu h
      refine ⟨[.i k m], by simp, by simp [PR, VR], by intro v hv; simp at hv; subst hv; rfl, ?_⟩
      simp only [Tv, hu]
      exact ⟨m, rfl, hw⟩
    · rename_i hu
      unfold DataW.trod at h
      rw [hu] at h
      split at h <;> simp_all
      rename_i s
      obtain ⟨h1, rfl⟩ := h
      have hsz := hwt s.data.toList.length (by simp [DataW.weights])
      have e : s.data.toList.length = s.size := by cases s; simp [ByteArray.size]
      rw [e] at hsz
      have e2 : Go.reachBytes ≤ 140737488351232 := by decide
      exact ⟨[.s s], by simp, by simp [PR, VR], by intro v hv; simp at hv; subst hv; rfl, by simp only [Tv, hu]; exact ⟨s, rfl, by omega⟩⟩
    · rename_i e hu
      simp only [Bool.and_eq_true, List.contains_iff_mem, decide_eq_true_eq] at hk
      obtain ⟨⟨hk1, hk2⟩, hk3⟩ := hk
      have hk : e ∈ l ∧ 0 < P.cellsOf e := ⟨hk1, hk2⟩
      rcases DataW.trod_slice hu h with ⟨rfl, _⟩ | ⟨a, len, cap, elems, rest, m, hm, rfl, hxe, hb, hl, hmx, hel, hat, _, _⟩
      · refine ⟨[.sl [] 0], by simp, ?_, by intro v hv; simp at hv; subst hv; rfl, ?_⟩
        · simp [PR, VR]
        · simp only [Tv, hu]
          exact ⟨[], by simp, by simp, by simp⟩
      · obtain rfl : n = m := by omega
        by_cases h0 : len = 0
        · subst h0
          refine ⟨[.sl [] 0], by simp, ?_, by intro v hv; simp at hv; subst hv; rfl, ?_⟩
          · simp [PR, VR]
          · simp only [Tv, hu]
            exact ⟨[], by simp, by simp, by simp⟩
        · subst hxe
          have hwE : ∀ x, x ∈ (elems.length + rest.length) * P.bytesOf e :: (DataW.weightsAll P e (elems.map (·.1)) ++ DataW.weightsAll P e (rest.map (·.1))) → x ≤ Go.reachBytes := by
            intro x hx
            refine hwt x ?_
            simp only [DataW.weights, hu, List.length_map]
            exact hx
          have hlw : len ≤ 140737488351232 := by
            have h1 := hwE ((elems.length + rest.length) * P.bytesOf e) (by simp)
            have e2 : Go.reachBytes ≤ 140737488351232 := by decide
            have h3 : (elems.length + rest.length) * 1 ≤ (elems.length + rest.length) * P.bytesOf e := Nat.mul_le_mul_left _ hk3
            omega
          have each : ∀ i, i < len → ∃ cs y, w.cells? base (a.add (i * P.cellsOf e)) (P.cellsOf e) = some cs ∧ DataW.trod enc P w base spare held n e cs = some y ∧ Wt P e y.1 := by
            intro i hi
            have := hat i hi
            rw [List.getElem?_eq_getElem (by omega)] at this
            obtain ⟨cs, h1, h2⟩ := Option.bind_eq_some_iff.1 this
            refine ⟨cs, _, h1, h2, fun x hx => hwE x ?_⟩
            simp only [List.mem_cons, List.mem_append]
            exact .inr (.inl (wt_all (i := i) (by rw [List.getElem?_map, List.getElem?_eq_getElem (by omega)]; rfl) x hx))
          obtain ⟨cs0, y0, q1, q2, _⟩ := each 0 (by omega)
          simp only [Nat.zero_mul, Addr.add, if_true] at q1
          obtain ⟨arr, et, fr, hbl, hsp, _, _⟩ := cells_at q1 hk.2
          have run : ∀ c, c ≤ len → ∃ els : List (List V), els.length = c ∧ (∀ p ∈ els, p.length = P.cellsOf e ∧ Tv P n e p) ∧ els.flatten.length = ((arr.toList.drop a.off).take (c * P.cellsOf e)).length ∧
              PR (heapRo w) els.flatten noRho ((arr.toList.drop a.off).take (c * P.cellsOf e)) ∧ OneL ((arr.toList.drop a.off).take (c * P.cellsOf e)) := by
            intro c
            induction c with
            | zero => intro _; exact ⟨[], rfl, by simp, by simp, by simp [PR], by intro v hv; simp at hv⟩
            | succ c ihc =>
              intro hc
              obtain ⟨els, e1, e2, e3, e4, e5⟩ := ihc (by omega)
              obtain ⟨csc, y, r1, r2, r2w⟩ := each c (by omega)
              obtain ⟨arr', et', fr', r3, r4, r5, r6⟩ := cells_at r1 hk.2
              have hblk : (a.add (c * P.cellsOf e)).block = a.block := by unfold Addr.add; split <;> rfl
              have hoff : (a.add (c * P.cellsOf e)).off = a.off + c * P.cellsOf e := by
                unfold Addr.add
                split
                · rename_i hz; rw [hz]; rfl
                · rfl
              rw [hblk, hbl] at r3
              cases r3
              rw [hoff] at r5
              obtain ⟨p, p1, p2, p3, p4⟩ := ih e hk.1 csc y r2 r2w
              have hsplit : (arr.toList.drop a.off).take ((c + 1) * P.cellsOf e) = (arr.toList.drop a.off).take (c * P.cellsOf e) ++ csc := by
                rw [r5, Nat.succ_mul, List.take_add, List.drop_drop]
              refine ⟨els ++ [p], by simp [e1], ?_, ?_, ?_, ?_⟩
              · intro q hq
                rcases List.mem_append.1 hq with hq | hq
                · exact e2 q hq
                · simp at hq; subst hq; exact ⟨by rw [p1, r6], p4⟩
              · rw [hsplit]; simp [e3, p1]
              · rw [hsplit, List.flatten_append, List.flatten_singleton]
                exact e4.append e3 p2
              · rw [hsplit]
                intro v hv
                exact (List.mem_append.1 hv).elim (e5 v) (p3 v)
          obtain ⟨els, e1, e2, e3, e4, e5⟩ := run len (Nat.le_refl _)
          have hlen : els.flatten.length = len * P.cellsOf e := by
            have : ∀ ll : List (List V), (∀ p ∈ ll, p.length = P.cellsOf e ∧ Tv P n e p) → ll.flatten.length = ll.length * P.cellsOf e := by
              intro ll
              induction ll with
              | nil => intro _; simp
              | cons p ll ihl =>
                intro hp
                rw [List.flatten_cons, List.length_append, ihl (fun q hq => hp q (by simp [hq])), (hp p (by simp)).1, List.length_cons, Nat.succ_mul]
                omega
            rw [this els e2, e1]
          refine ⟨[.sl els.flatten els.length], by simp, ?_, by intro v hv; simp at hv; subst hv; rfl, ?_⟩
          · simp only [PR, VR]
            refine ⟨_, _, rfl, ⟨some a, cap, by rw [e1], by omega, .inr ⟨a.block, a.off, arr, et, fr, ?_, hbl, ?_, ?_⟩⟩, trivial⟩
            · cases a; simp at hsp; subst hsp; rfl
            · rw [hlen]; exact e5
            · have := e4.wide (k := (arr.toList.drop a.off).drop (len * P.cellsOf e))
              rw [List.take_append_drop] at this
              exact this
          · simp only [Tv, hu]
            exact ⟨els, rfl, by omega, e2⟩
    · rename_i fs hu
      simp only [Bool.and_eq_true, List.all_eq_true, List.contains_iff_mem, beq_iff_eq] at hk
      obtain ⟨xs, m, hm, rfl, hcl, hxl, hat⟩ := DataW.trod_struct hu h
      obtain rfl : n = m := by omega
      obtain ⟨vs, v1, v2, v3, v4⟩ := tv_fields (cs := cs) ih fs.toList 0 _ hk.2 hk.1 hcl.symm (fun f hf => by
        obtain ⟨i, hi, rfl⟩ := List.getElem_of_mem hf
        have := hat i fs.toList[i] (by simp at hi; simp [hi])
        rw [List.getElem?_eq_getElem (by simp at hi; omega)] at this
        refine ⟨_, this, fun x hx => hwt x ?_⟩
        simp only [DataW.weights, hu]
        exact wt_each (i := i) (by rw [List.getElem?_map, List.getElem?_eq_getElem hi]; rfl) (by rw [List.getElem?_map, List.getElem?_eq_getElem (by simp at hi; omega)]; rfl) x hx)
      rw [List.drop_zero] at v1 v2 v3
      refine ⟨vs, v1, v2, v3, ?_⟩
      simp only [Tv, hu]
      exact v4
    · cases hk

/-- An argument: a struct's cells, or a value alone. -/
def TvA (P : Program) (n : Nat) (t : TypeId) (v : V) : Prop := match P.underlying t with
  | some (.struct _) => ∃ vs, v = .ag vs ∧ Tv P n t vs
  | _ => Tv P n t [v]
def TvAll (P : Program) : List TypeId → List V → Prop
  | [], [] => True
  | t :: ts, v :: vs => (∃ n, TvA P n t v) ∧ TvAll P ts vs
  | _, _ => False

theorem arg_open (ok : okT P l = true) {t : TypeId} (ht : t ∈ l) {v : Value} {d : DataW H} {p : List MemPlace} {W : World} {b : Nat} (hv : Value.okWide P W .any b t v) (h : DataW.Trod enc P w base spare held t v d p) (hwt : Wt P t d) :
    ∃ x, VR (heapRo w) x noRho v ∧ ∃ n, TvA P n t x := by
  obtain ⟨n, h⟩ := h
  obtain ⟨vs, v1, v2, v3, v4⟩ := tv_open ok n t ht _ _ h hwt
  cases hu : P.underlying t with
  | none => cases n <;> simp [Tv, hu] at v4
  | some s =>
    unfold Value.okWide at hv
    rw [hu] at hv
    cases s with
    | struct fs =>
      obtain ⟨cs, rfl, h1, _⟩ := hv
      refine ⟨.ag vs, ?_, n, ?_⟩
      · simp only [VR]
        exact ⟨cs, rfl, by rw [v1]; simp [Value.cells], by simpa [Value.cells] using v3, by simpa [Value.cells] using v2⟩
      · unfold TvA
        rw [hu]
        exact ⟨vs, rfl, v4⟩
    | _ =>
      have one : ∀ u, vs = [u] → ∃ x, VR (heapRo w) x noRho v ∧ ∃ n, TvA P n t x := by
        rintro u rfl
        refine ⟨u, ?_, n, ?_⟩
        · have hc : v.cells.toList = [v] := by
            have hl : v.cells.toList.length = 1 := by rw [← v1]; rfl
            cases v with
            | agg cs =>
              have := v2
              simp only [Value.cells] at hl v2 v3
              cases n with
              | zero => simp [Tv] at v4
              | succ n => first | (simp [Go.Cell.okWide, Go.Cell.ok, hu] at hv; done) | (simp [Tv, hu] at v4; done)
            | _ => rfl
          rw [hc] at v2
          obtain ⟨_, _, q1, q2, _⟩ := v2
          cases q1
          exact q2
        · unfold TvA
          rw [hu]
          exact v4
      cases n with
      | zero => simp [Tv] at v4
      | succ n =>
        first
          | (simp [Tv, hu] at v4; done)
          | simp only [Tv, hu] at v4
        first
          | done
          | (obtain ⟨b, hb⟩ := v4; exact one _ hb)
          | (obtain ⟨b, hb, _⟩ := v4; exact one _ hb)
          | exact v4.elim

theorem row_args (ok : okT P l = true) {W : World} {b : Nat} : ∀ {ts : List TypeId} {vs : List Value} {ds : List (DataW H)} {p : List MemPlace}, DataW.TrodAll enc P w base spare held ts vs ds p → (∀ x ∈ DataW.weightsEach P ts ds, x ≤ Go.reachBytes) → (∀ t ∈ ts, t ∈ l) →
    (∀ (j : Nat) t v, ts[j]? = some t → vs[j]? = some v → Value.okWide P W .any b t v) → ∃ Vs, PR (heapRo w) Vs noRho vs ∧ Vs.length = vs.length ∧ TvAll P ts Vs
  | [], [], [], p, h, hw, hl, hv => ⟨[], by simp [PR], rfl, trivial⟩
  | t :: ts, v :: vs, d :: ds, p, h, hw, hl, hv => by
    obtain ⟨p1, p2, h1, h2, _⟩ := h
    obtain ⟨x, x1, x2⟩ := arg_open ok (hl t (by simp)) (hv 0 t v rfl rfl) h1 (fun x hx => hw x (by simp [DataW.weightsEach, hx]))
    obtain ⟨Vs, q1, q2, q3⟩ := row_args ok h2 (fun x hx => hw x (by simp [DataW.weightsEach, hx])) (fun t' ht => hl t' (by simp [ht])) (fun j t' v' ht hv' => hv (j + 1) t' v' (by simpa using ht) (by simpa using hv'))
    exact ⟨x :: Vs, by simp only [PR]; exact ⟨v, vs, rfl, x1, q1⟩, by simp [q2], x2, q3⟩
  | [], _ :: _, _, _, h, _, _, _ => h.elim
  | [], [], _ :: _, _, h, _, _, _ => h.elim
  | _ :: _, [], _, _, h, _, _, _ => h.elim
  | _ :: _, _ :: _, [], _, h, _, _, _ => h.elim

theorem row_len : ∀ {ts : List TypeId} {vs : List Value} {ds : List (DataW H)} {p : List MemPlace}, DataW.TrodAll enc P w base spare held ts vs ds p → vs.length = ts.length ∧ ds.length = ts.length
  | [], [], [], p, h => ⟨rfl, rfl⟩
  | t :: ts, v :: vs, d :: ds, p, h => by
    obtain ⟨p1, p2, h1, h2, _⟩ := h
    have := row_len h2
    simp [this]
  | [], _ :: _, _, _, h => h.elim
  | [], [], _ :: _, _, h => h.elim
  | _ :: _, [], _, _, h => h.elim
  | _ :: _, _ :: _, [], _, h => h.elim

theorem wt_mem : ∀ {ts : List TypeId} {ds : List (DataW H)} {us : List TypeId} {gs : List (DataW H)}, ts.length = ds.length → ∀ x ∈ DataW.weightsEach P ts ds, x ∈ DataW.weightsEach P (ts ++ us) (ds ++ gs)
  | [], [], us, gs, _, x, h => by simp [DataW.weightsEach] at h
  | t :: ts, d :: ds, us, gs, hl, x, h => by
    simp only [DataW.weightsEach, List.cons_append, List.mem_append] at h ⊢
    rcases h with h | h
    · exact .inl h
    · exact .inr (wt_mem (by simpa using hl) x h)
  | [], _ :: _, _, _, hl, _, _ => by simp at hl
  | _ :: _, [], _, _, hl, _, _ => by simp at hl
theorem row_back {W W' : World} (hlo : Go.laidOutB P = true) (hb : Go.RowKit.Below W.heap.size W W') : ∀ {ts : List TypeId} {vs : List Value} {ds : List (DataW H)} {p : List MemPlace}, DataW.TrodAll enc P W 0 (fun _ => true) true ts vs ds p →
    (∀ t ∈ ts, P.readableRec t = true ∧ t < P.types.size) → (∀ x ∈ p, x.block < W.heap.size) → DataW.TrodAll enc P W' 0 (fun b => decide (b < W.heap.size)) true ts vs ds p
  | [], [], [], p, h, _, _ => h
  | t :: ts, v :: vs, d :: ds, p, h, hr, hp => by
    obtain ⟨p1, p2, h1, h2, rfl⟩ := h
    have := hr t (by simp)
    exact ⟨p1, p2, Go.RowKit.Below.trod hlo this.1 this.2 h1 hb (fun x hx => hp x (by simp [hx])), row_back hlo hb h2 (fun t' ht => hr t' (by simp [ht])) (fun x hx => hp x (by simp [hx])), rfl⟩
  | [], _ :: _, _, _, h, _, _ => h.elim
  | [], [], _ :: _, _, h, _, _ => h.elim
  | _ :: _, [], _, _, h, _, _ => h.elim
  | _ :: _, _ :: _, [], _, h, _, _ => h.elim
end

/-! What the values of a type are. -/
section
variable {P : Program} {n : Nat} {t e : TypeId}
theorem wf_u8 {x : Int} (h : (Lit.int .u8 x).wf = true) : 0 ≤ x ∧ x < 256 := by
  simp [Lit.wf, IntKind.min, IntKind.max, IntKind.signed, IntKind.bits] at h
  omega
theorem tv_pos {vs : List V} (h : Tv P n t vs) : ∃ k, n = k + 1 := by
  cases n with
  | zero => simp [Tv] at h
  | succ k => exact ⟨k, rfl⟩
theorem tv_int {k : IntKind} (hu : P.underlying t = some (.int k)) {vs : List V} (h : Tv P n t vs) : ∃ x, vs = [.i k x] ∧ (Lit.int k x).wf = true := by
  obtain ⟨k, rfl⟩ := tv_pos h
  simpa only [Tv, hu] using h
theorem tv_sl (hu : P.underlying t = some (.slice e)) {α : Type} {f : α → List V} {Q : α → Prop} (hf : ∀ m p, Tv P m e p → m < n → ∃ a, p = f a ∧ Q a) {vs : List V} (h : Tv P n t vs) :
    ∃ l : List α, vs = [.sl (l.flatMap f) l.length] ∧ l.length ≤ 140737488351232 ∧ ∀ a ∈ l, Q a := by
  obtain ⟨k, rfl⟩ := tv_pos h
  simp only [Tv, hu] at h
  obtain ⟨els, rfl, h1, h2⟩ := h
  have : ∃ l : List α, els.flatten = l.flatMap f ∧ els.length = l.length ∧ ∀ a ∈ l, Q a := by
    clear h1
    induction els with
    | nil => exact ⟨[], rfl, rfl, by simp⟩
    | cons p els ih =>
      obtain ⟨l, q1, q2, q3⟩ := ih (fun p hp => h2 p (by simp [hp]))
      obtain ⟨a, rfl, ha⟩ := hf k p (h2 p (by simp)).2 (by omega)
      exact ⟨a :: l, by simp [q1], by simp [q2], by intro b hb; rcases List.mem_cons.1 hb with rfl | hb; exact ha; exact q3 b hb⟩
  obtain ⟨l, q1, q2, q3⟩ := this
  refine ⟨l, by rw [q1, q2], ?_, q3⟩
  rw [← q2]
  exact h1
/-- Of a type that is no struct. -/
theorem tvA_one {v : V} (h : TvA P n t v) (hu : ∀ fs, P.underlying t ≠ some (.struct fs)) : Tv P n t [v] := by
  unfold TvA at h
  split at h
  · rename_i fs hfs; exact absurd hfs (hu fs)
  · exact h
theorem a_sl (hu : P.underlying t = some (.slice e)) {α : Type} {f : α → List V} {Q : α → Prop} (hf : ∀ m p, Tv P m e p → ∃ a, p = f a ∧ Q a) {v : V} (h : TvA P n t v) :
    ∃ l : List α, v = .sl (l.flatMap f) l.length ∧ l.length ≤ 140737488351232 ∧ ∀ a ∈ l, Q a := by
  obtain ⟨l, h1, h2, h3⟩ := tv_sl hu (fun m p hp _ => hf m p hp) (tvA_one h (by rw [hu]; intro fs h; cases h))
  simp at h1
  exact ⟨l, by simp [h1], h2, h3⟩
end
end Pi

