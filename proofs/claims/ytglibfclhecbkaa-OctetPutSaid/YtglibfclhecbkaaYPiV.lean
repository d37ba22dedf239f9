/- More fuel tells the same. -/
import Derived.Test.YtglibfclhecbkaaYPiU
set_option linter.unusedSimpArgs false
set_option linter.unusedVariables false
namespace Pi
open Go (IntKind TypeId FuncId Fn BinOp UnOp LoopState)

section
variable {C : Ctx}

structure More (C : Ctx) (n : Nat) : Prop where
  exec : ∀ {c s r}, exec C n c s = some r → exec C (n + 1) c s = some r
  segs : ∀ {c s r}, runSegs C n c s = some r → runSegs C (n + 1) c s = some r
  ops : ∀ {c s r}, runOps C n c s = some r → runOps C (n + 1) c s = some r
  any : ∀ {c s t r}, runAny C n c s t = some r → runAny C (n + 1) c s t = some r
  quiet : ∀ {f a m x r}, callQ C n f a m x = some r → callQ C (n + 1) f a m x = some r
  call : ∀ {f a m x r}, callV C n f a m x = some r → callV C (n + 1) f a m x = some r
  enter : ∀ {g a m x v r}, enter C n g a m x v = some r → enter C (n + 1) g a m x v = some r
  leave : ∀ {F s p r}, leave C n F s p = some r → leave C (n + 1) F s p = some r

theorem bind_more {α β : Type} {a a' : Option α} {f f' : α → Option β} {r : β} (h : a.bind f = some r) (h1 : ∀ x, a = some x → a' = some x) (h2 : ∀ x, f x = some r → f' x = some r) : a'.bind f' = some r := by
  obtain ⟨x, hx, hr⟩ := Option.bind_eq_some_iff.1 h
  rw [h1 x hx]
  exact h2 x hr

theorem more : ∀ n, More C n
  | 0 => ⟨fun h => by simp [Pi.exec] at h, fun h => by simp [runSegs] at h, fun h => by simp [runOps] at h, fun h => by simp [runAny] at h, fun h => by simp [callQ] at h, fun h => by simp [callV] at h, fun h => by simp [Pi.enter] at h, fun h => by simp [Pi.leave] at h⟩
  | n + 1 => by
    have ih := more n
    refine ⟨?_, ?_, ?_, ?_, ?_, ?_, ?_, ?_⟩
    · intro c s r h
      cases c with
      | skip => simpa [Pi.exec] using h
      | reg segs => simp only [Pi.exec] at h ⊢; exact ih.segs h
      | seq a b =>
        simp only [Pi.exec] at h ⊢
        refine bind_more h (fun _ => ih.exec) fun x hx => ?_
        split at hx <;> first | exact ih.exec hx | exact hx
      | cond c a b =>
        simp only [Pi.exec] at h ⊢
        split at h
        · rename_i t ht; exact ih.exec h
        · cases h
      | block id c =>
        simp only [Pi.exec] at h ⊢
        exact bind_more h (fun _ => ih.exec) fun x hx => hx
      | loop c =>
        rw [Pi.exec.eq_def] at h ⊢
        simp only at h ⊢
        refine bind_more h (fun _ => ih.exec) fun x hx => ?_
        split at hx <;> first | exact ih.exec hx | exact hx
      | scope c => simp only [Pi.exec] at h ⊢; exact ih.exec h
      | exit id => simpa [Pi.exec] using h
      | ret => simpa [Pi.exec] using h
      | rf f ps a b =>
        simp only [Pi.exec] at h ⊢
        split at h
        · cases h
        · rename_i hir
          rw [if_neg hir]
          exact bind_more h (fun _ => ih.call) fun x hx => hx
    · intro c s r h
      cases c with
      | nil => simpa [runSegs] using h
      | cons p l =>
        cases p with
        | seq ops =>
          simp only [runSegs] at h ⊢
          refine bind_more h (fun _ => ih.ops) fun x hx => ?_
          split at hx <;> first | exact ih.segs hx | exact hx
        | any ops prs =>
          simp only [runSegs] at h ⊢
          refine bind_more h (fun _ => ih.any) fun x hx => ?_
          split at hx
          · rename_i hc; rw [if_pos hc]; exact ih.segs hx
          · cases hx
    · intro c s r h
      cases c with
      | nil => simpa [runOps] using h
      | cons p l =>
        simp only [runOps] at h ⊢
        cases hw : wanted p.g s.e with
        | none => rw [hw] at h; cases h
        | some c =>
          rw [hw] at h
          cases c with
          | false => exact ih.ops h
          | true =>
            simp only at h ⊢
            cases ho : p.o with
            | ca f args =>
              simp only [ho] at h ⊢
              refine bind_more h (fun _ => ih.call) fun x hx => ?_
              split at hx
              · rename_i v hv; try rw [hv]
                exact ih.ops hx
              · rename_i v hv; try rw [hv]
                exact hx
            | pa y => simp only [ho] at h ⊢; exact h
            | df f args =>
              simp only [ho] at h ⊢
              split at h
              · split at h
                · cases h
                · rename_i hc; rw [if_neg hc]; exact ih.ops h
              · cases h
            | rc =>
              simp only [ho] at h ⊢
              split at h
              · exact ih.ops h
              · cases h
            | _ =>
              simp only [ho] at h ⊢
              exact bind_more h (fun _ hx => hx) fun x hx => ih.ops hx
    · intro c s t r h
      cases c with
      | nil => simpa [runAny] using h
      | cons p l =>
        simp only [runAny] at h ⊢
        cases hw : wanted p.g s.e with
        | none => rw [hw] at h; cases h
        | some c =>
          rw [hw] at h
          cases c with
          | false => exact ih.any h
          | true =>
            simp only at h ⊢
            cases ho : p.o with
            | ca f args =>
              simp only [ho] at h ⊢
              exact bind_more h (fun _ => ih.quiet) fun x hx => ih.any hx
            | pa y => simp only [ho] at h; cases h
            | df f args => simp only [ho] at h; cases h
            | rc => simp only [ho] at h; cases h
            | _ =>
              simp only [ho] at h ⊢
              exact bind_more h (fun _ hx => hx) fun x hx => ih.any hx
    · intro f a m x r h
      unfold callQ at h
      rw [callQ.eq_def]
      simp only at h ⊢
      split at h
      · split at h
        · rename_i hp; first | (simp only [hp]; exact h) | exact h
        · rename_i hp
          try simp only [hp]
          split at h
          · cases h
          · rename_i ho
            rw [if_neg ho]
            exact bind_more h (fun _ hx => hx) fun z hz => bind_more hz (fun _ => ih.enter) fun y hy => hy
      · cases h
    · intro f a m x r h
      unfold callV at h
      rw [callV.eq_def]
      simp only at h ⊢
      split at h
      · split at h
        · rename_i hp; first | (simp only [hp]; exact h) | exact h
        · rename_i hp
          try simp only [hp]
          split at h
          · rename_i hf
            try simp only [hf]
            obtain ⟨y, h1, h2⟩ := Option.map_eq_some_iff.1 h
            rw [ih.enter h1]
            simp [h2]
          · rename_i z hf
            try simp only [hf]
            exact bind_more h (fun _ => ih.enter) fun y hy => hy
      · split at h
        · rename_i q hq
          try simp only [hq]
          split at h
          · rename_i hst
            rw [if_pos hst]
            refine bind_more h (fun _ hx => hx) fun e he => bind_more he (fun _ => ih.exec) fun y hy => ?_
            split at hy
            · split at hy
              · rename_i q' hq'
                split at hy
                · cases hy
                · rename_i hst'
                  rename_i hnor
                  try simp only [hnor, hq']
                  rw [if_neg hst']
                  exact bind_more hy (fun _ => ih.exec) fun z hz => hz
              · cases hy
            · cases hy
          · cases h
        · cases h
      · cases h
    · intro g a m x v r h
      simp only [Pi.enter] at h ⊢
      refine bind_more h (fun _ hx => hx) fun F hF => bind_more hF (fun _ => ih.exec) fun y hy => ?_
      split at hy
      · rename_i v hv; (try simp only [hv]); exact ih.leave hy
      · rename_i hv; (try simp only [hv]); exact ih.leave hy
      · rename_i hv; (try simp only [hv]); exact ih.leave hy
      · cases hy
    · intro F s p r h
      unfold Pi.leave at h
      rw [Pi.leave.eq_def]
      simp only at h ⊢
      split at h
      · rename_i hd; first | (simp only [hd]; exact h) | exact h
      · rename_i l rr hd
        try simp only [hd]
        split at h
        · rename_i hm; (try simp only [hm]); exact ih.leave h
        · cases h
      · rename_i f args rr hd
        try simp only [hd]
        split at h
        · refine bind_more h (fun _ => ih.enter) fun y hy => ?_
          split at hy
          · cases hy
          · rename_i v hv; (try simp only [hv]); exact ih.leave hy
        · cases h

theorem ent_of {n g : Nat} {as : List V} {m : Sto} {x : Nat} {rv : Option V} {cr : CR} {m' : Sto} {x' : Nat} {rv' : Option V} (h : enter C n g as m x rv = some (cr, m', x', rv')) : Ent C g as m x rv cr m' x' rv' := by
  refine ⟨n, fun k hk => ?_⟩
  induction hk with
  | refl => exact h
  | step _ ih => exact (more _).enter ih

end
end Pi
