/- The run of code: all of it. -/
import Derived.Test.YtglibfclhecbkaaYPiS
import Derived.Below
set_option linter.unusedSimpArgs false
set_option linter.unusedVariables false
namespace Pi
open Go (IntKind TypeId FuncId Fn BinOp UnOp LoopState Value Addr World Program undef Operand Sem Result Frame Item step lone Steps step_lone_go stepG)

section
variable {P : Program} {C : Ctx}

theorem sound0 (lk : Lnk P C) : Sound P C 0 where
  exec := by intro N c pc s s' x hc he; simp [exec] at he
  loop := by intro N c pc s s' x hc he; simp [exec] at he
  segs := by intro N id ops draw segs s s' x hc he; simp [runSegs] at he
  ops := by intro N ops is ps s s' x hr he; simp [runOps] at he
  any := any_sound lk (fun k hk => absurd hk (by omega))
  call := by intro f args m m' x x' cr he; simp [callV] at he
  enter := by intro f as m m' x x' rv rv' cr he; simp [enter] at he
  leave := by intro F s pn m' x' rv' cr he; simp [leave] at he

theorem sound (lk : Lnk P C) : ∀ n k, k ≤ n → Sound P C k
  | 0, k, hk => by
    have : k = 0 := by omega
    subst this
    exact sound0 lk
  | n + 1, k, hk => by
    have ih := sound lk n
    by_cases h : k ≤ n
    · exact ih k h
    · have : k = n + 1 := by omega
      subst this
      have ihn := ih n (Nat.le_refl _)
      exact ⟨exec_sound ihn, fun h1 he _ _ _ _ _ _ k hs => loop_sound ihn h1 he k hs (.one s_inLoop), segs_sound lk ih, ops_sound ihn, any_sound lk (fun j hj => ih j (by omega)), call_sound lk ihn, enter_sound lk ihn, leave_sound lk ihn⟩

/-- What a run says of the machine's call: of a function that gets frozen arguments. -/
theorem calls_of_enter (lk : Lnk P C) {n f : Nat} {as : List V} {v : V} {m' : Sto} {x' : Nat} {rv' : Option V} (he : enter C n f as (fun _ => none) 0 none = some (.ret v, m', x', rv')) {w : World} {args : Array Value} {ro : Ro}
    (hro : ∀ b o, ro b = some o → w.heap[b]? = some o) (ha : PR ro as noRho args.toList) (hl : as.length = args.size) :
    Go.Calls P f args w (fun e w' => ∃ v' g', e = .returned v' ∧ Go.RowKit.Below w.heap.size w w' ∧ VR g'.ro v g'.rho v' ∧ WR P g' m' w') := by
  intro cs
  let g : G := ⟨noRho, ro, fun b => w.heap[b]?⟩
  have hw : WR P g (fun _ => none) w := ⟨(fun l o h => nomatch h), (fun l k o o' b n n' h => nomatch h), hro, fun b o h => h⟩
  obtain ⟨g', w', fr, cs', q1, q2, q3, q4, q5, q6, q7, q8, q9⟩ := (sound lk n n (Nat.le_refl _)).enter he (kd := .normal) (cs := cs) (g := g) ha hl hw (fun l _ => rfl) recNone
  obtain ⟨rfl, _⟩ := csrNone q5
  obtain ⟨z1, z2, fn, v', z3, z4, z5⟩ := q9
  refine ⟨.returned v', w', fr, ⟨v', g', rfl, ⟨q4.os, q4.tape, q4.output, q4.size, fun k hk => ?_⟩, z5, q2⟩, q6, q7, z1, z2, q8, fn, z3, z4⟩
  have h1 : w.heap[k]? = some w.heap[k] := Array.getElem?_eq_getElem hk
  rw [h1]
  exact q2.keep _ _ (q1.keep k _ h1)

/-- A law: it answers true, and what was there is as it was. -/
theorem law_of_enter (lk : Lnk P C) {n f : Nat} {as : List V} {m' : Sto} {x' : Nat} {rv' : Option V} (he : enter C n f as (fun _ => none) 0 none = some (.ret (.b true), m', x', rv')) {w : World} {args : Array Value} {ro : Ro}
    (hro : ∀ b o, ro b = some o → w.heap[b]? = some o) (ha : PR ro as noRho args.toList) (hl : as.length = args.size) :
    Go.Calls P f args w (fun e w' => e = .returned (.bool true) ∧ Go.RowKit.Below w.heap.size w w') := by
  intro cs
  obtain ⟨e, w', fr, ⟨v', g', h1, h2, h3, _⟩, h4⟩ := calls_of_enter lk he hro ha hl cs
  simp only [VR] at h3
  subst h3
  exact ⟨e, w', fr, ⟨h1, h2⟩, h4⟩

end
end Pi
