/- Open order: any order that the edges allow comes to the same. -/
import Derived.Test.YtglibfclhecbkaaYPiN
set_option linter.unusedSimpArgs false
set_option linter.unusedVariables false
namespace Pi
open Go (IntKind TypeId FuncId Fn BinOp UnOp LoopState Value Addr World Program undef Operand Sem Result Frame Item step lone Steps step_lone_go stepG)

/-- An operation of open order, carried out. -/
structure Rec where
  k : Nat
  p : POper
  n : Nat
  x : Nat
  q : V × Ws × List Nat × Nat

def RunL (C : Ctx) : List Rec → Env → Sto → Env → Sto → Prop
  | [], e, m, e', m' => e' = e ∧ m' = m
  | r :: rs, e, m, e', m' => stepA C r.n r.p e m r.x = some r.q ∧ RunL C rs (updE e r.p.d r.q.1) (m.app r.q.2.1) e' m'

structure Apart (a b : Rec) : Prop where
  slots : slotsMeet a.p b.p = false
  mem : a.p.o.cls + b.p.o.cls ≥ 3 → ∀ l ∈ a.q.2.2.1, l ∉ b.q.2.2.1

theorem app_cons (m : Sto) (p : Nat × Option PObj) (ws : Ws) : m.app (p :: ws) = (m.set p.1 p.2).app ws := rfl

theorem app_other : ∀ {ws : Ws} {m : Sto} {l : Nat}, (∀ q ∈ ws, q.1 ≠ l) → m.app ws l = m l
  | [], _, _, _ => rfl
  | p :: ws, m, l, h => by
    rw [app_cons, app_other (fun q hq => h q (List.mem_cons_of_mem _ hq)), Sto.set_ne _ _ (h p (List.mem_cons_self)).symm]

theorem app_alike : ∀ {ws : Ws} {m m' : Sto} {l : Nat}, (m l = m' l ∨ ∃ q ∈ ws, q.1 = l) → m.app ws l = m'.app ws l
  | [], _, _, _, h => by
    rcases h with h | ⟨q, hq, _⟩
    · exact h
    · cases hq
  | p :: ws, m, m', l, h => by
    rw [app_cons, app_cons]
    refine app_alike ?_
    by_cases e : l = p.1
    · left; subst e; rw [Sto.set_same, Sto.set_same]
    · rcases h with h | ⟨q, hq, e2⟩
      · left; rw [Sto.set_ne _ _ e, Sto.set_ne _ _ e]; exact h
      · rcases List.mem_cons.1 hq with rfl | hq
        · exact absurd e2.symm e
        · exact .inr ⟨q, hq, e2⟩

theorem app_comm {m : Sto} {u w : Ws} (h : ∀ r ∈ u, ∀ s ∈ w, r.1 ≠ s.1) : (m.app u).app w = (m.app w).app u := by
  funext l
  by_cases hu : ∃ q ∈ u, q.1 = l
  · have hw : ∀ q ∈ w, q.1 ≠ l := by
      intro s hs e
      obtain ⟨r, hr, e2⟩ := hu
      exact h r hr s hs (e2.trans e.symm)
    rw [app_other hw]
    exact app_alike (.inr hu)
  · have hu' : ∀ q ∈ u, q.1 ≠ l := fun q hq e => hu ⟨q, hq, e⟩
    rw [app_other (m := m.app w) hu']
    exact app_alike (.inl (app_other hu'))

theorem meet_off {a b : POper} (h : slotsMeet a b = false) : (∀ t, a.d = some t → t ∉ b.reads ∧ b.d ≠ some t) ∧ (∀ t, b.d = some t → t ∉ a.reads) := by
  unfold slotsMeet at h
  rw [Bool.or_eq_false_iff] at h
  obtain ⟨h1, h2⟩ := h
  constructor
  · intro t ht
    simp only [ht, Bool.or_eq_false_iff] at h1
    exact ⟨by simpa using h1.1, by simpa using h1.2⟩
  · intro t ht
    simp only [ht] at h2
    simpa using h2

theorem updE_other {e : Env} {d : Option Nat} {v : V} {t : Nat} (h : d ≠ some t) : updE e d v t = e t := by
  cases d with
  | none => rfl
  | some k =>
    simp only [updE, Env.set]
    rw [if_neg (fun e => h (by rw [e]))]

theorem updE_comm {e : Env} {d k : Option Nat} {v u : V} (h : ∀ t, d = some t → k ≠ some t) : updE (updE e d v) k u = updE (updE e k u) d v := by
  funext t
  by_cases h1 : d = some t
  · have h2 := h t h1
    rw [updE_other h2]
    subst h1
    simp [updE, Env.set]
  · rw [updE_other (d := d) h1]
    cases k with
    | none => simp only [updE]; exact updE_other h1
    | some j =>
      simp only [updE, Env.set]
      by_cases h2 : t = j
      · simp [h2]
      · simp only [h2, if_false]; exact updE_other h1

section
variable {P : Program} {C : Ctx} {n : Nat}

theorem swap (lk : Lnk P C) {a b : Rec} {rs : List Rec} {e e' : Env} {m m' : Sto} (h : RunL C (a :: b :: rs) e m e' m') (hp : Apart a b) : RunL C (b :: a :: rs) e m e' m' := by
  obtain ⟨h1, h2, h3⟩ := h
  obtain ⟨_, a1, a2⟩ := stepA_ws lk h1
  obtain ⟨_, b1, b2⟩ := stepA_ws lk h2
  obtain ⟨s1, s2⟩ := meet_off hp.slots
  have A1 : ∀ r ∈ a.q.2.1, r.1 ∉ b.q.2.2.1 := by
    intro r hr
    obtain ⟨c1, c2⟩ := a1 r hr
    by_cases hb : b.p.o.cls = 0
    · rw [b2 hb]; simp
    · exact hp.mem (by omega) _ c2
  have A2 : ∀ s ∈ b.q.2.1, s.1 ∉ a.q.2.2.1 := by
    intro s hs hin
    obtain ⟨c1, c2⟩ := b1 s hs
    by_cases ha : a.p.o.cls = 0
    · rw [a2 ha] at hin; simp at hin
    · exact hp.mem (by omega) _ hin c2
  have A3 : ∀ r ∈ a.q.2.1, ∀ s ∈ b.q.2.1, r.1 ≠ s.1 := by
    intro r hr s hs e
    exact A1 r hr (e ▸ (b1 s hs).2)
  have hb : stepA C b.n b.p e m b.x = some b.q := by
    refine stepA_same lk h2 (fun t ht => ?_) (fun l hl => ?_)
    · exact (updE_other (fun hd => (s1 t hd).1 ht)).symm
    · exact (app_other (fun q hq e => A1 q hq (e ▸ hl))).symm
  have ha : stepA C a.n a.p (updE e b.p.d b.q.1) (m.app b.q.2.1) a.x = some a.q := by
    refine stepA_same lk h1 (fun t ht => ?_) (fun l hl => ?_)
    · exact updE_other (fun hd => s2 t hd ht)
    · exact app_other (fun q hq e => A2 q hq (e ▸ hl))
  refine ⟨hb, ha, ?_⟩
  rw [updE_comm (d := b.p.d) (fun t ht hd => (s1 t hd).2 ht), app_comm (u := b.q.2.1) (fun r hr s hs e => A3 s hs r hr e.symm)]
  exact h3

theorem pull (lk : Lnk P C) {b : Rec} {rs : List Rec} : ∀ {A : List Rec} {e e' : Env} {m m' : Sto}, RunL C (A ++ b :: rs) e m e' m' → (∀ a ∈ A, Apart a b) → RunL C (b :: (A ++ rs)) e m e' m'
  | [], _, _, _, _, h, _ => h
  | a :: A, _, _, _, _, h, hp => by
    obtain ⟨h1, h2⟩ := h
    have h3 := pull lk (A := A) h2 (fun a' ha' => hp a' (List.mem_cons_of_mem _ ha'))
    exact swap lk ⟨h1, h3⟩ (hp a (List.mem_cons_self))

/-- The text's run, told. -/
theorem recs (lk : Lnk P C) : ∀ {ps : List POper} {n : Nat} {s s' : S} {ts ts' : List (List Nat)} (lo : Nat), runAny C n ps s ts = some (s', ts') →
    ∃ R : List Rec, R.map Rec.p = ps ∧ R.map Rec.k = List.range' lo ps.length ∧ RunL C R s.e s.m s'.e s'.m ∧ s'.ds = s.ds ∧ s'.rv = s.rv ∧ s'.rd = s.rd ∧ ts' = ts.reverse ++ R.map (fun r => r.q.2.2.1) ∧ s.x ≤ s'.x ∧
      (∀ r ∈ R, s.x ≤ r.x ∧ r.q.2.2.2 ≤ s'.x ∧ r.n < n) ∧ R.Pairwise (fun a b => a.q.2.2.2 ≤ b.x)
  | [], n, s, s', ts, ts', lo, h => by
    cases n with
    | zero => simp [runAny] at h
    | succ n =>
      simp only [runAny, Option.some.injEq, Prod.mk.injEq] at h
      obtain ⟨rfl, rfl⟩ := h
      exact ⟨[], rfl, rfl, ⟨rfl, rfl⟩, rfl, rfl, rfl, by simp, Nat.le_refl _, by simp, .nil⟩
  | p :: ps, n, s, s', ts, ts', lo, h => by
    cases n with
    | zero => simp [runAny] at h
    | succ n =>
      rw [runAny_cons] at h
      simp only [Option.bind_eq_some_iff] at h
      obtain ⟨q, h1, h2⟩ := h
      obtain ⟨R, r1, r2, r3, r4, r5, r6, r7, r8, r9, r10⟩ := recs lk (lo + 1) h2
      have hx := (stepA_ws lk h1).1
      simp only at r3 r4 r5 r6 r8 r9
      refine ⟨⟨lo, p, n, s.x, q⟩ :: R, by simp [r1], by simp [r2, List.range'_succ], ⟨h1, r3⟩, r4, r5, r6, by simp [r7], by omega, ?_, ?_⟩
      · intro r hr
        rcases List.mem_cons.1 hr with rfl | hr
        · exact ⟨Nat.le_refl _, r8, by simp⟩
        · obtain ⟨a1, a2, a3⟩ := r9 r hr
          exact ⟨by omega, a2, by omega⟩
      · refine List.pairwise_cons.2 ⟨fun r hr => (r9 r hr).1, r10⟩

end
end Pi
