/- What a call of open order depends on; one step of open order. -/
import Derived.Test.YtglibfclhecbkaaYPiM
set_option linter.unusedSimpArgs false
set_option linter.unusedVariables false
namespace Pi
open Go (IntKind TypeId FuncId Fn BinOp UnOp LoopState Value Addr World Program undef Operand Sem Result Frame Item step lone Steps step_lone_go stepG)

abbrev De := Nat → Option (Bool × List V × List V × List Nat)

/-- What one of them answers, the other one does where all that it saw is alike. -/
def DeSame (A : Nat → Prop) (de de' : De) : Prop := ∀ l q, de l = some q → A l → (∀ k ∈ q.2.2.2, A k) → de' l = some q

mutual
theorem frzW_same {A : Nat → Prop} {de de' : De} (hd : DeSame A de de') : ∀ (x : V) {r : V × List Nat}, frzW de x = some r → (∀ l ∈ r.2, A l) → frzW de' x = some r
  | .b _, r, h, _ => by simp only [frzW] at h ⊢; exact h
  | .i _ _, r, h, _ => by simp only [frzW] at h ⊢; exact h
  | .s _, r, h, _ => by simp only [frzW] at h ⊢; exact h
  | .np, r, h, _ => by simp only [frzW] at h ⊢; exact h
  | .p l off, r, h, ha => by
    simp only [frzW, Option.bind_eq_some_iff] at h ⊢
    obtain ⟨q, h1, h2⟩ := h
    refine ⟨q, ?_, h2⟩
    split at h2
    · cases h2
    · simp only [Option.some.injEq] at h2
      subst h2
      exact hd l q h1 (ha l (List.mem_cons_self)) (fun k hk => ha k (List.mem_cons_of_mem _ hk))
  | .rp cs, r, h, _ => by simp only [frzW] at h ⊢; exact h
  | .ns, r, h, _ => by simp only [frzW] at h ⊢; exact h
  | .sl cs n, r, h, _ => by simp only [frzW] at h ⊢; exact h
  | .ms l off n esz, r, h, ha => by
    simp only [frzW, Option.bind_eq_some_iff] at h ⊢
    obtain ⟨q, h1, h2⟩ := h
    refine ⟨q, ?_, h2⟩
    split at h2
    · simp only [Option.some.injEq] at h2
      subst h2
      exact hd l q h1 (ha l (List.mem_cons_self)) (fun k hk => ha k (List.mem_cons_of_mem _ hk))
    · cases h2
  | .nm, r, h, _ => by simp only [frzW] at h ⊢; exact h
  | .mp l, r, h, ha => by
    simp only [frzW, Option.bind_eq_some_iff] at h ⊢
    obtain ⟨q, h1, h2⟩ := h
    refine ⟨q, ?_, h2⟩
    split at h2
    · simp only [Option.some.injEq] at h2
      subst h2
      exact hd l q h1 (ha l (List.mem_cons_self)) (fun k hk => ha k (List.mem_cons_of_mem _ hk))
    · cases h2
  | .rm ks vs, r, h, _ => by simp only [frzW] at h ⊢; exact h
  | .nf, r, h, _ => by simp only [frzW] at h ⊢; exact h
  | .fn f a c, r, h, ha => by
    simp only [frzW] at h ⊢
    split at h
    · simp only [Option.bind_eq_some_iff, Option.some.injEq] at h ⊢
      obtain ⟨x, h1, y, h2, rfl⟩ := h
      exact ⟨x, frzL_same hd a h1 (fun l hl => ha l (List.mem_append.2 (.inl hl))), y, frzL_same hd c h2 (fun l hl => ha l (List.mem_append.2 (.inr hl))), rfl⟩
    · cases h
  | .ni, r, h, _ => by simp only [frzW] at h ⊢; exact h
  | .fc t x, r, h, ha => by
    simp only [frzW, Option.bind_eq_some_iff, Option.some.injEq] at h ⊢
    obtain ⟨y, h1, rfl⟩ := h
    exact ⟨y, frzW_same hd x h1 ha, rfl⟩
  | .ag cs, r, h, ha => by
    simp only [frzW, Option.bind_eq_some_iff, Option.some.injEq] at h ⊢
    obtain ⟨y, h1, rfl⟩ := h
    exact ⟨y, frzL_same hd cs h1 ha, rfl⟩
  | .tu cs, r, h, ha => by
    simp only [frzW, Option.bind_eq_some_iff, Option.some.injEq] at h ⊢
    obtain ⟨y, h1, rfl⟩ := h
    exact ⟨y, frzL_same hd cs h1 ha, rfl⟩
  | .un, r, h, _ => by simp only [frzW] at h; cases h
theorem frzL_same {A : Nat → Prop} {de de' : De} (hd : DeSame A de de') : ∀ (x : List V) {r : List V × List Nat}, frzL de x = some r → (∀ l ∈ r.2, A l) → frzL de' x = some r
  | [], r, h, _ => by simp only [frzL] at h ⊢; exact h
  | c :: cs, r, h, ha => by
    simp only [frzL, Option.bind_eq_some_iff, Option.some.injEq] at h ⊢
    obtain ⟨x, h1, y, h2, rfl⟩ := h
    exact ⟨x, frzW_same hd c h1 (fun l hl => ha l (List.mem_append.2 (.inl hl))), y, frzL_same hd cs h2 (fun l hl => ha l (List.mem_append.2 (.inr hl))), rfl⟩
end

theorem der_same {m m' : Sto} : ∀ d, DeSame (fun l => m' l = m l) (der m d) (der m' d)
  | 0 => fun l q h _ _ => by simp [der] at h
  | d + 1 => fun l q h ha hs => by
    have ih := der_same (m := m) (m' := m') d
    simp only [der] at h ⊢
    rw [ha]
    split at h
    · rename_i cs r hm
      simp only [hm, Option.bind_eq_some_iff, Option.some.injEq] at h ⊢
      obtain ⟨x, h1, rfl⟩ := h
      exact ⟨x, frzL_same ih cs h1 hs, rfl⟩
    · rename_i ks vs r hm
      simp only [hm, Option.bind_eq_some_iff, Option.some.injEq] at h ⊢
      obtain ⟨x, h1, y, h2, rfl⟩ := h
      exact ⟨x, frzL_same ih ks h1 (fun l hl => hs l (List.mem_append.2 (.inl hl))), y, frzL_same ih vs h2 (fun l hl => hs l (List.mem_append.2 (.inr hl))), rfl⟩
    · cases h

theorem freezeL_same {m m' : Sto} {x : List V} {r : List V × List Nat} (h : freezeL m x = some r) (ha : ∀ l ∈ r.2, m' l = m l) : freezeL m' x = some r :=
  frzL_same (der_same _) x h ha

section
variable {P : Program} {C : Ctx} {n : Nat}

theorem callQ_same (lk : Lnk P C) {f : V} {args : List V} {m m' : Sto} {x : Nat} {q : QR} (h : callQ C n f args m x = some q) (ha : ∀ l ∈ q.ids, m' l = m l) : callQ C n f args m' x = some q := by
  cases n with
  | zero => simp [callQ] at h
  | succ n =>
    unfold callQ at h ⊢
    simp only at h ⊢
    split at h
    · rename_i gg first cap
      try simp only
      split at h
      · rename_i hh hprim
        try simp only [hprim]
        simp only [Option.map_eq_some_iff] at h ⊢
        obtain ⟨⟨v, ws⟩, h1, rfl⟩ := h
        exact ⟨(v, ws), ((lk.prim _ _ hprim).2.1 h1).1 m' (fun l hl => ha l (List.mem_cons_of_mem _ hl)), rfl⟩
      · rename_i hprim
        try simp only [hprim]
        split at h
        · cases h
        · rename_i hop
          rw [if_neg hop]
          simp only [Option.bind_eq_some_iff] at h ⊢
          obtain ⟨a, h1, ⟨cr, m1, x1, rv1⟩, h2, h3⟩ := h
          cases cr with
          | pan v => cases h3
          | ret v =>
            simp only [Option.bind_eq_some_iff] at h3
            obtain ⟨w, h4, h5⟩ := h3
            split at h5
            · rename_i hc
              simp only [Option.some.injEq] at h5
              subst h5
              refine ⟨a, freezeL_same h1 ha, (.ret v, m1, x1, rv1), h2, ?_⟩
              simp only [Option.bind_eq_some_iff]
              exact ⟨w, h4, by rw [if_pos hc]⟩
            · cases h5
    · cases h

theorem callQ_ws (lk : Lnk P C) {f : V} {args : List V} {m : Sto} {x : Nat} {q : QR} (h : callQ C n f args m x = some q) : x ≤ q.x ∧ ∀ p ∈ q.ws, p.1 ∈ q.ids := by
  cases n with
  | zero => simp [callQ] at h
  | succ n =>
    unfold callQ at h
    simp only at h
    split at h
    · split at h
      · rename_i hh hprim
        simp only [Option.map_eq_some_iff] at h
        obtain ⟨⟨v, ws⟩, h1, rfl⟩ := h
        refine ⟨by simp, fun p hp => ?_⟩
        rcases ((lk.prim _ _ hprim).2.1 h1).2 p hp with h2 | h2
        · simp [h2]
        · exact List.mem_cons_of_mem _ h2
      · split at h
        · cases h
        · simp only [Option.bind_eq_some_iff] at h
          obtain ⟨a, h1, ⟨cr, m1, x1, rv1⟩, h2, h3⟩ := h
          cases cr with
          | pan v => cases h3
          | ret v =>
            simp only [Option.bind_eq_some_iff] at h3
            obtain ⟨w, h4, h5⟩ := h3
            split at h5
            · simp only [Option.some.injEq] at h5
              subst h5
              exact ⟨Nat.le_refl _, fun p hp => by cases hp⟩
            · cases h5
    · cases h

/-- One operation of open order: its value, what it writes, what it touches, the next number. -/
def stepA (C : Ctx) (n : Nat) (p : POper) (e : Env) (m : Sto) (x : Nat) : Option (V × Ws × List Nat × Nat) :=
  match wanted p.g e with
  | none => none
  | some false => some (.tu [], [], [], x)
  | some true =>
    match p.o with
    | .ca f args => (callQ C n (f.ev e) (args.map (Opd.ev e)) m x).map fun q => (q.v, q.ws, q.ids, q.x)
    | .pa _ | .df _ _ | .rc => none
    | o => (opD o e m x).map fun q => (q.1, q.2, o.tch e x, x + 1)

def updE (e : Env) (d : Option Nat) (v : V) : Env := match d with | some t => e.set t v | none => e

theorem app_nil (m : Sto) : m.app [] = m := by simp [Sto.app]

theorem put_eq (s : S) (d : Option Nat) (v : V) : s.put d v = { s with e := updE s.e d v } := by cases d <;> rfl

theorem runAny_cons {p : POper} {r : List POper} {s : S} {ts : List (List Nat)} :
    runAny C (n + 1) (p :: r) s ts = (stepA C n p s.e s.m s.x).bind fun q => runAny C n r { s with e := updE s.e p.d q.1, m := s.m.app q.2.1, x := q.2.2.2 } (q.2.2.1 :: ts) := by
  rw [runAny]
  unfold stepA
  cases hw : wanted p.g s.e with
  | none => rfl
  | some c =>
    cases c with
    | false => simp only [Option.bind_some, app_nil, put_eq]
    | true =>
      simp only
      cases ho : p.o <;> simp only [Option.bind_none, Option.bind_map, put_eq] <;> rfl

theorem wanted_same {g : Option (Nat × Bool)} {e e' : Env} (h : ∀ t ∈ (match g with | none => [] | some (t, _) => [t] : List Nat), e' t = e t) : wanted g e' = wanted g e := by
  cases g with
  | none => rfl
  | some p =>
    obtain ⟨t, w⟩ := p
    simp only [wanted, h t (by simp)]

theorem stepA_same (lk : Lnk P C) {p : POper} {e e' : Env} {m m' : Sto} {x : Nat} {q : V × Ws × List Nat × Nat} (h : stepA C n p e m x = some q) (he : ∀ t ∈ p.reads, e' t = e t) (hm : ∀ l ∈ q.2.2.1, m' l = m l) :
    stepA C n p e' m' x = some q := by
  have he1 : ∀ t ∈ p.o.reads, e' t = e t := fun t ht => he t (by simp only [POper.reads, List.mem_append]; exact .inl ht)
  have hw := wanted_same (g := p.g) (e := e) (e' := e') fun t ht => he t (by simp only [POper.reads, List.mem_append]; exact .inr ht)
  unfold stepA at h ⊢
  rw [hw]
  cases hc : wanted p.g e with
  | none => rw [hc] at h; cases h
  | some c =>
    rw [hc] at h
    cases c with
    | false => exact h
    | true =>
      simp only at h ⊢
      cases ho : p.o with
      | ca f args =>
        simp only [ho, Option.map_eq_some_iff] at h ⊢
        rw [ho] at he1
        obtain ⟨y, h1, rfl⟩ := h
        have e1 : f.ev e' = f.ev e := ev_same fun t ht => he1 t (by simp only [POp.reads, List.mem_append]; exact .inl ht)
        have e2 := evL_same (l := args) (e := e) (e' := e') fun t ht => he1 t (by simp only [POp.reads, List.mem_append]; exact .inr ht)
        exact ⟨y, by rw [e1, e2]; exact callQ_same lk h1 hm, rfl⟩
      | pa x => simp only [ho] at h; cases h
      | df f l => simp only [ho] at h; cases h
      | rc => simp only [ho] at h; cases h
      | _ =>
        simp only [ho, Option.map_eq_some_iff] at h ⊢
        rw [ho] at he1
        obtain ⟨y, h1, rfl⟩ := h
        obtain ⟨a1, a2⟩ := opD_same (slot := x) (m := m) (m' := m') he1 (fun l hl => hm l (by unfold POp.tch; split <;> simp [hl]))
        exact ⟨y, a1.trans h1, by unfold POp.tch; rw [a2]⟩

theorem stepA_ws (lk : Lnk P C) {p : POper} {e : Env} {m : Sto} {x : Nat} {q : V × Ws × List Nat × Nat} (h : stepA C n p e m x = some q) :
    x ≤ q.2.2.2 ∧ (∀ r ∈ q.2.1, p.o.cls = 2 ∧ r.1 ∈ q.2.2.1) ∧ (p.o.cls = 0 → q.2.2.1 = []) := by
  unfold stepA at h
  cases hc : wanted p.g e with
  | none => rw [hc] at h; cases h
  | some c =>
    rw [hc] at h
    cases c with
    | false =>
      simp only [Option.some.injEq] at h
      subst h
      exact ⟨Nat.le_refl _, (fun r hr => nomatch hr), fun _ => rfl⟩
    | true =>
      simp only at h
      cases ho : p.o with
      | ca f args =>
        simp only [ho, Option.map_eq_some_iff] at h
        obtain ⟨y, h1, rfl⟩ := h
        obtain ⟨a1, a2⟩ := callQ_ws lk h1
        exact ⟨a1, fun r hr => ⟨rfl, a2 r hr⟩, fun h => by simp [POp.cls] at h⟩
      | pa x => simp only [ho] at h; cases h
      | df f l => simp only [ho] at h; cases h
      | rc => simp only [ho] at h; cases h
      | _ =>
        simp only [ho, Option.map_eq_some_iff] at h
        obtain ⟨y, h1, rfl⟩ := h
        refine ⟨by simp, fun r hr => ?_, fun h => by unfold POp.tch; rw [if_neg (by rw [h]; decide)]; exact cls0_touch (e := e) h⟩
        obtain ⟨h2, h3⟩ := opD_ws h1 r hr
        refine ⟨h2, ?_⟩
        unfold POp.tch
        rw [if_pos h2]
        rcases h3 with h3 | h3
        · simp [h3]
        · simp [h3]

end
end Pi
