/- What an operation depends on, and what it changes. -/
import Derived.Test.YtglibfclhecbkaaYPiL
set_option linter.unusedSimpArgs false
set_option linter.unusedVariables false
namespace Pi
open Go (IntKind TypeId FuncId Fn BinOp UnOp LoopState Value Addr World Program undef Operand Sem Result Frame Item step lone Steps step_lone_go stepG)

section
variable {e e' : Env} {m m' : Sto}

theorem ev_same {x : Opd} (h : ∀ t ∈ x.tm, e' t = e t) : x.ev e' = x.ev e := by
  cases x with
  | t n => exact h n (by simp [Opd.tm])
  | c v => rfl

theorem evL_same : ∀ {l : List Opd}, (∀ t ∈ l.flatMap Opd.tm, e' t = e t) → l.map (Opd.ev e') = l.map (Opd.ev e)
  | [], _ => rfl
  | x :: r, h => by
    simp only [List.map_cons]
    have h1 : x.ev e' = x.ev e := ev_same fun t ht => h t (by simp [ht])
    have h2 := evL_same (l := r) fun t ht => h t (by simp only [List.flatMap_cons, List.mem_append]; exact .inr ht)
    rw [h1, h2]

theorem bnd_same {o : Option Opd} {d : Nat} (h : ∀ t ∈ tmO o, e' t = e t) : bnd e' o d = bnd e o d := by
  cases o with
  | none => rfl
  | some x => simp only [bnd, ev_same h]

theorem fill_same : ∀ {ps : List (Nat × Nat × Opd)} {cs : List V}, (∀ t ∈ ps.flatMap (fun p => p.2.2.tm), e' t = e t) → fill e' cs ps = fill e cs ps
  | [], _, _ => rfl
  | (off, n, x) :: r, cs, h => by
    have h1 : x.ev e' = x.ev e := ev_same fun t ht => h t (by simp [ht])
    have h2 : ∀ cs, fill e' cs r = fill e cs r := fun cs => fill_same fun t ht => h t (by simp only [List.flatMap_cons, List.mem_append]; exact .inr ht)
    simp only [fill, h1, h2]

theorem slCells_same {esz : Nat} {v : V} (h : ∀ l ∈ refOf v, m' l = m l) : slCells m' esz v = slCells m esz v := by
  cases v <;> simp only [slCells]
  rw [h _ (by simp [refOf])]
theorem apCells_same {esz : Nat} {v : V} (h : ∀ l ∈ refOf v, m' l = m l) : apCells m' esz v = apCells m esz v := by
  cases v <;> simp only [apCells] <;> exact slCells_same h
theorem lenV_same {v : V} (h : ∀ l ∈ refOf v, m' l = m l) : lenV m' v = lenV m v := by
  cases v <;> simp only [lenV]
  rw [h _ (by simp [refOf])]
theorem lenK_same {k : LK} {v : V} (h : ∀ l ∈ refOf v, m' l = m l) : lenK m' k v = lenK m k v := by
  cases k <;> cases v <;> simp only [lenK]
  rw [h _ (by simp [refOf])]

theorem opD_same {o : POp} {slot : Nat} (he : ∀ t ∈ o.reads, e' t = e t) (hm : ∀ l ∈ o.touch e, m' l = m l) : opD o e' m' slot = opD o e m slot ∧ o.touch e' = o.touch e := by
  cases o with
  | mv x => simp only [opD, POp.touch, ev_same he, and_self]
  | bx x => simp only [opD, POp.touch, ev_same he, and_self]
  | un op x => simp only [opD, POp.touch, ev_same he, and_self]
  | nc x => simp only [opD, POp.touch, ev_same he, and_self]
  | ci k x => simp only [opD, POp.touch, ev_same he, and_self]
  | csb x => simp only [opD, POp.touch, ev_same he, and_self]
  | mi t x => simp only [opD, POp.touch, ev_same he, and_self]
  | fa off x => simp only [opD, POp.touch, ev_same he, and_self]
  | fe ag off n x => simp only [opD, POp.touch, ev_same he, and_self]
  | ta t z x ok => simp only [opD, POp.touch, ev_same he, and_self]
  | ex x i => simp only [opD, POp.touch, ev_same he, and_self]
  | pa x => simp only [opD, POp.touch, and_self]
  | al z => exact ⟨rfl, rfl⟩
  | mm => exact ⟨rfl, rfl⟩
  | rc => exact ⟨rfl, rfl⟩
  | no => exact ⟨rfl, rfl⟩
  | ca f l => exact ⟨rfl, rfl⟩
  | df f l => exact ⟨rfl, rfl⟩
  | pk c a b =>
    have h1 : c.ev e' = c.ev e := ev_same fun t ht => he t (by simp [POp.reads, ht])
    have h2 : a.ev e' = a.ev e := ev_same fun t ht => he t (by simp [POp.reads, ht])
    have h3 : b.ev e' = b.ev e := ev_same fun t ht => he t (by simp [POp.reads, ht])
    simp only [opD, POp.touch, h1, h2, h3, and_self]
  | bd z ps => simp only [opD, POp.touch, fill_same he, and_self]
  | bs esz n z ps => simp only [opD, POp.touch, fill_same he, and_self]
  | mf f a c =>
    have h1 := evL_same (l := a) fun t ht => he t (by simp only [POp.reads, List.mem_append]; exact .inl ht)
    have h2 := evL_same (l := c) fun t ht => he t (by simp only [POp.reads, List.mem_append]; exact .inr ht)
    simp only [opD, POp.touch, h1, h2, and_self]
  | mx l =>
    have h1 := evL_same (l := l) he
    cases l with
    | nil => exact ⟨rfl, rfl⟩
    | cons x r => simp only [List.map_cons, List.cons.injEq] at h1; simp only [opD, POp.touch, h1.1, h1.2, and_self]
  | mn l =>
    have h1 := evL_same (l := l) he
    cases l with
    | nil => exact ⟨rfl, rfl⟩
    | cons x r => simp only [List.map_cons, List.cons.injEq] at h1; simp only [opD, POp.touch, h1.1, h1.2, and_self]
  | bi op x y =>
    have h1 : x.ev e' = x.ev e := ev_same fun t ht => he t (by simp [POp.reads, ht])
    have h2 : y.ev e' = y.ev e := ev_same fun t ht => he t (by simp [POp.reads, ht])
    simp only [opD, POp.touch, h1, h2, and_self]
  | eq neg q x y =>
    have h1 : x.ev e' = x.ev e := ev_same fun t ht => he t (by simp [POp.reads, ht])
    have h2 : y.ev e' = y.ev e := ev_same fun t ht => he t (by simp [POp.reads, ht])
    simp only [opD, POp.touch, h1, h2, and_self]
  | mk esz z x y =>
    have h1 : x.ev e' = x.ev e := ev_same fun t ht => he t (by simp [POp.reads, ht])
    have h2 : y.ev e' = y.ev e := ev_same fun t ht => he t (by simp [POp.reads, ht])
    simp only [opD, POp.touch, h1, h2, and_self]
  | ia esz x y =>
    have h1 : x.ev e' = x.ev e := ev_same fun t ht => he t (by simp [POp.reads, ht])
    have h2 : y.ev e' = y.ev e := ev_same fun t ht => he t (by simp [POp.reads, ht])
    simp only [opD, POp.touch, h1, h2, and_self]
  | iz len esz x y =>
    have h1 : x.ev e' = x.ev e := ev_same fun t ht => he t (by simp [POp.reads, ht])
    have h2 : y.ev e' = y.ev e := ev_same fun t ht => he t (by simp [POp.reads, ht])
    simp only [opD, POp.touch, h1, h2, and_self]
  | xa ag len esz x y =>
    have h1 : x.ev e' = x.ev e := ev_same fun t ht => he t (by simp [POp.reads, ht])
    have h2 : y.ev e' = y.ev e := ev_same fun t ht => he t (by simp [POp.reads, ht])
    simp only [opD, POp.touch, h1, h2, and_self]
  | xs x y =>
    have h1 : x.ev e' = x.ev e := ev_same fun t ht => he t (by simp [POp.reads, ht])
    have h2 : y.ev e' = y.ev e := ev_same fun t ht => he t (by simp [POp.reads, ht])
    simp only [opD, POp.touch, h1, h2, and_self]
  | ss x lo hi =>
    have h1 : x.ev e' = x.ev e := ev_same fun t ht => he t (by simp [POp.reads, ht])
    have h2 : ∀ d, bnd e' lo d = bnd e lo d := fun d => bnd_same fun t ht => he t (by simp [POp.reads, ht])
    have h3 : ∀ d, bnd e' hi d = bnd e hi d := fun d => bnd_same fun t ht => he t (by simp [POp.reads, ht])
    simp only [opD, POp.touch, h1, h2, h3, and_self]
  | sv esz x lo hi mx =>
    have h1 : x.ev e' = x.ev e := ev_same fun t ht => he t (by simp [POp.reads, ht])
    have h2 : ∀ d, bnd e' lo d = bnd e lo d := fun d => bnd_same fun t ht => he t (by simp [POp.reads, ht])
    have h3 : ∀ d, bnd e' hi d = bnd e hi d := fun d => bnd_same fun t ht => he t (by simp [POp.reads, ht])
    have h4 : ∀ d, bnd e' mx d = bnd e mx d := fun d => bnd_same fun t ht => he t (by simp [POp.reads, ht])
    cases mx with
    | none => simp only [opD, POp.touch, h1, h2, h3, and_self]
    | some mx => simp only [opD, POp.touch, h1, h2, h3, h4, and_self]
  | sa n esz x lo hi =>
    have h1 : x.ev e' = x.ev e := ev_same fun t ht => he t (by simp [POp.reads, ht])
    have h2 : ∀ d, bnd e' lo d = bnd e lo d := fun d => bnd_same fun t ht => he t (by simp [POp.reads, ht])
    have h3 : ∀ d, bnd e' hi d = bnd e hi d := fun d => bnd_same fun t ht => he t (by simp [POp.reads, ht])
    simp only [opD, POp.touch, h1, h2, h3, and_true]
    cases hx : x.ev e <;> simp only
    rw [hm _ (by simp [POp.touch, hx, refOf])]
  | ld ag n a =>
    simp only [opD, POp.touch, ev_same he, and_true]
    cases hx : a.ev e <;> simp only
    rw [hm _ (by simp [POp.touch, hx, refOf])]
  | st n a x =>
    have h1 : a.ev e' = a.ev e := ev_same fun t ht => he t (by simp [POp.reads, ht])
    have h2 : x.ev e' = x.ev e := ev_same fun t ht => he t (by simp [POp.reads, ht])
    simp only [opD, POp.touch, h1, h2, and_true]
    cases hx : a.ev e <;> simp only
    rw [hm _ (by simp [POp.touch, hx, refOf])]
  | cbs x =>
    simp only [opD, POp.touch, ev_same he, and_true]
    rw [slCells_same (fun l hl => hm l (by simpa [POp.touch] using hl))]
  | lk q z a k ok =>
    have h1 : a.ev e' = a.ev e := ev_same fun t ht => he t (by simp [POp.reads, ht])
    have h2 : k.ev e' = k.ev e := ev_same fun t ht => he t (by simp [POp.reads, ht])
    simp only [opD, POp.touch, h1, h2, and_true]
    cases hx : a.ev e <;> simp only
    rw [hm _ (by simp [POp.touch, hx, refOf])]
  | mu q a k v =>
    have h1 : a.ev e' = a.ev e := ev_same fun t ht => he t (by simp [POp.reads, ht])
    have h2 : k.ev e' = k.ev e := ev_same fun t ht => he t (by simp [POp.reads, ht])
    have h3 : v.ev e' = v.ev e := ev_same fun t ht => he t (by simp [POp.reads, ht])
    simp only [opD, POp.touch, h1, h2, h3, and_true]
    cases hx : a.ev e <;> simp only
    rw [hm _ (by simp [POp.touch, hx, refOf])]
  | ln k x =>
    simp only [opD, POp.touch, ev_same he, and_true]
    rw [lenK_same (fun l hl => hm l (by simpa [POp.touch] using hl))]
  | ap esz a x =>
    have h1 : a.ev e' = a.ev e := ev_same fun t ht => he t (by simp [POp.reads, ht])
    have h2 : x.ev e' = x.ev e := ev_same fun t ht => he t (by simp [POp.reads, ht])
    simp only [opD, POp.touch, h1, h2, and_true]
    rw [apCells_same (fun l hl => hm l (by simp [POp.touch, hl])), lenV_same (fun l hl => hm l (by simp [POp.touch, hl]))]
    cases hx : a.ev e <;> (try rfl)
    rename_i l off len esz2
    have hl : m' l = m l := hm _ (by simp [POp.touch, hx, refOf])
    cases off <;> simp only [hl]
  | cp esz a x =>
    have h1 : a.ev e' = a.ev e := ev_same fun t ht => he t (by simp [POp.reads, ht])
    have h2 : x.ev e' = x.ev e := ev_same fun t ht => he t (by simp [POp.reads, ht])
    simp only [opD, POp.touch, h1, h2, and_true]
    rw [apCells_same (fun l hl => hm l (by simp [POp.touch, hl])), lenV_same (fun l hl => hm l (by simp [POp.touch, hl]))]
    cases hx : a.ev e <;> simp only
    rw [hm _ (by simp [POp.touch, hx, refOf])]

theorem cls0_touch {o : POp} (h : o.cls = 0) : o.touch e = [] := by
  cases o <;> simp [POp.cls] at h <;> rfl

/-- Where an operation writes. -/
theorem opD_ws {o : POp} {slot : Nat} {v : V} {ws : Ws} (h : opD o e m slot = some (v, ws)) : ∀ q ∈ ws, o.cls = 2 ∧ (q.1 = slot ∨ q.1 ∈ o.touch e) := by
  intro q hq
  cases o with
  | st n a x =>
    simp only [opD] at h
    split at h
    · rename_i l off hx
      split at h
      · split at h
        · simp only [Option.some.injEq, Prod.mk.injEq] at h
          obtain ⟨_, rfl⟩ := h
          simp only [List.mem_singleton] at hq
          subst hq
          exact ⟨rfl, .inr (by simp [POp.touch, hx, refOf])⟩
        · cases h
      · cases h
    · cases h
  | mu k a b c =>
    simp only [opD] at h
    split at h
    · rename_i l hx
      split at h
      · simp only [Option.map_eq_some_iff] at h
        obtain ⟨o, _, h2⟩ := h
        split at h2
        all_goals
          simp only [Prod.mk.injEq] at h2
          obtain ⟨_, rfl⟩ := h2
          simp only [List.mem_singleton] at hq
          subst hq
          exact ⟨rfl, .inr (by simp [POp.touch, hx, refOf])⟩
      · cases h
    · cases h
  | ap esz a x =>
    simp only [opD, Option.bind_eq_some_iff] at h
    obtain ⟨xs, _, n, _, h⟩ := h
    split at h
    · split at h
      · simp only [Option.some.injEq, Prod.mk.injEq] at h
        obtain ⟨_, rfl⟩ := h
        cases hq
      · split at h
        · simp only [Option.some.injEq, Prod.mk.injEq] at h
          obtain ⟨_, rfl⟩ := h
          simp only [List.mem_singleton] at hq
          subst hq
          exact ⟨rfl, .inl rfl⟩
        · cases h
    · rename_i l len esz' hx
      split at h
      · simp only [Option.some.injEq, Prod.mk.injEq] at h
        obtain ⟨_, rfl⟩ := h
        cases hq
      · split at h
        · split at h
          · simp only [Option.some.injEq, Prod.mk.injEq] at h
            obtain ⟨_, rfl⟩ := h
            simp only [List.mem_cons, List.not_mem_nil, or_false] at hq
            rcases hq with rfl | rfl
            · exact ⟨rfl, .inr (by simp [POp.touch, hx, refOf])⟩
            · exact ⟨rfl, .inl rfl⟩
          · cases h
        · cases h
    · cases h
  | cp esz a x =>
    simp only [opD, Option.bind_eq_some_iff] at h
    obtain ⟨xs, _, n, _, h⟩ := h
    split at h
    · rename_i l off len esz' hx
      split at h
      · split at h
        · simp only [Option.some.injEq, Prod.mk.injEq] at h
          obtain ⟨_, rfl⟩ := h
          simp only [List.mem_singleton] at hq
          subst hq
          exact ⟨rfl, .inr (by simp [POp.touch, hx, refOf])⟩
        · cases h
      · cases h
    · cases h
  | mx l =>
    cases l <;> simp only [opD] at h
    · cases h
    · simp only [Option.map_eq_some_iff, Prod.mk.injEq] at h
      obtain ⟨_, _, _, rfl⟩ := h
      cases hq
  | mn l =>
    cases l <;> simp only [opD] at h
    · cases h
    · simp only [Option.map_eq_some_iff, Prod.mk.injEq] at h
      obtain ⟨_, _, _, rfl⟩ := h
      cases hq
  | lk k z a b c =>
    have aux : ∀ {ks vs : List V} {r : V × Ws}, look k z (b.ev e) c ks vs = some r → r.2 = [] := by
      intro ks vs r hr
      simp only [look, Option.bind_eq_some_iff] at hr
      obtain ⟨o, _, h2⟩ := hr
      cases o with
      | some j =>
        simp only [Option.map_eq_some_iff] at h2
        obtain ⟨_, _, rfl⟩ := h2
        rfl
      | none =>
        simp only [Option.some.injEq] at h2
        subst h2
        rfl
    simp only [opD] at h
    repeat' split at h
    all_goals first | (have := aux h; simp only at this; subst this; cases hq) | cases h
  | _ =>
    refine (?_ : _ ∧ q.1 = slot).imp id .inl
    simp only [opD] at h
    revert h
    repeat' split
    all_goals (try (simp only [Option.some.injEq, Prod.mk.injEq, Option.map_eq_some_iff, Option.bind_eq_some_iff, reduceCtorEq, false_implies]))
    all_goals (try (intro h; obtain ⟨_, rfl⟩ := h; simp at hq; try (subst hq; exact ⟨rfl, rfl⟩)))
    all_goals (try (intro h; obtain ⟨_, _, _, rfl⟩ := h; simp at hq; try (subst hq; exact ⟨rfl, rfl⟩)))
    all_goals
      rintro h
      first
        | (obtain ⟨_, _, _, _, h⟩ := h; exact h.elim)
        | (obtain ⟨_, _, _, _, h⟩ := h
           repeat' split at h
           all_goals first | (cases h; done) | (simp only [Option.some.injEq, Prod.mk.injEq] at h; obtain ⟨_, rfl⟩ := h; cases hq; done))
        | (obtain ⟨_, _, _, _, _, _, _, _, h⟩ := h
           repeat' split at h
           all_goals first | (cases h; done) | (simp only [Option.some.injEq, Prod.mk.injEq] at h; obtain ⟨_, rfl⟩ := h; cases hq; done))

end
end Pi
