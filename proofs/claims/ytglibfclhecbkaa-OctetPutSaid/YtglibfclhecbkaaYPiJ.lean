/- Freezing: a value without the store says the same of the machine's value, where what it looked into stays. -/
import Derived.Test.YtglibfclhecbkaaYPiI
set_option linter.unusedSimpArgs false
namespace Pi
open Go (IntKind TypeId FuncId Fn BinOp UnOp LoopState Value Addr World Program undef Operand Sem Result Frame Item step lone Steps step_lone_go stepG)

abbrev noRho : Rho := fun _ => none

/-- What is asked of a thing that was looked into. -/
def Seen (g : G) (ro0 : Ro) (w : World) (ids : List Nat) : Prop := ∀ l ∈ ids, ∀ b n, g.rho l = some (b, n) → ro0 b = w.heap[b]?

theorem Seen.left {g : G} {ro0 : Ro} {w : World} {a b : List Nat} (h : Seen g ro0 w (a ++ b)) : Seen g ro0 w a := fun l hl => h l (List.mem_append.2 (.inl hl))
theorem Seen.right {g : G} {ro0 : Ro} {w : World} {a b : List Nat} (h : Seen g ro0 w (a ++ b)) : Seen g ro0 w b := fun l hl => h l (List.mem_append.2 (.inr hl))
theorem Seen.tail {g : G} {ro0 : Ro} {w : World} {l : Nat} {b : List Nat} (h : Seen g ro0 w (l :: b)) : Seen g ro0 w b := fun k hk => h k (List.mem_cons_of_mem _ hk)

/-- What is said of a thing, frozen. -/
def GoodDer (g : G) (ro0 : Ro) (w : World) (de : Nat → Option (Bool × List V × List V × List Nat)) : Prop :=
  ∀ l r, de l = some r → Seen g ro0 w r.2.2.2 → ∀ b n, g.rho l = some (b, n) →
    match r.1 with
    | false => ∃ arr e f, w.heap[b]? = some (.cells arr e f) ∧ OneL arr.toList ∧ PR ro0 r.2.1 noRho arr.toList
    | true => ∃ es ck, w.heap[b]? = some (.map es ck) ∧ r.2.1.length = es.size ∧ r.2.2.1.length = es.size ∧ PR ro0 r.2.1 noRho (es.toList.map (·.key)) ∧ PR ro0 r.2.2.1 noRho (es.toList.map (·.val))

theorem frzL_len {de : Nat → Option (Bool × List V × List V × List Nat)} : ∀ {l : List V} {r : List V × List Nat}, frzL de l = some r → r.1.length = l.length
  | [], r, h => by simp only [frzL, Option.some.injEq] at h; subst h; rfl
  | v :: l, r, h => by
    simp only [frzL, Option.bind_eq_some_iff, Option.some.injEq] at h
    obtain ⟨x, _, y, h2, rfl⟩ := h
    simp [frzL_len h2]

mutual
theorem frz_ok {g : G} {ro0 : Ro} {w : World} {de : Nat → Option (Bool × List V × List V × List Nat)} (hr : RoE g.ro ro0) (hd : GoodDer g ro0 w de) :
    ∀ (x : V) {r : V × List Nat} {v : Value}, frzW de x = some r → Seen g ro0 w r.2 → VR g.ro x g.rho v → VR ro0 r.1 noRho v
  | .b _, r, v, h, _, hv => by simp only [frzW, Option.some.injEq] at h; subst h; simpa [VR] using hv
  | .i _ _, r, v, h, _, hv => by simp only [frzW, Option.some.injEq] at h; subst h; simpa [VR] using hv
  | .s _, r, v, h, _, hv => by simp only [frzW, Option.some.injEq] at h; subst h; simpa [VR] using hv
  | .np, r, v, h, _, hv => by simp only [frzW, Option.some.injEq] at h; subst h; simpa [VR] using hv
  | .p l off, r, v, h, hs, hv => by
    simp only [frzW, Option.bind_eq_some_iff] at h
    obtain ⟨q, h1, h2⟩ := h
    split at h2
    · cases h2
    · rename_i hq
      simp only [Option.some.injEq] at h2
      subst h2
      simp only [VR] at hv ⊢
      obtain ⟨b, n, e1, e2⟩ := hv
      have := hd l q h1 hs.tail b n e1
      have hq' : q.1 = false := by simpa using hq
      simp only [hq'] at this
      obtain ⟨arr, e, f, e3, e4, e5⟩ := this
      exact ⟨b, off, arr, e, f, e2, (hs l (List.mem_cons_self) b n e1).trans e3, e4.all _ _, e5.drop off⟩
  | .rp cs, r, v, h, _, hv => by
    simp only [frzW, Option.some.injEq] at h
    subst h
    have := VR.mono hr (.rp cs) (RhoE.refl _) hv
    simpa [VR] using this
  | .ns, r, v, h, _, hv => by
    simp only [frzW, Option.some.injEq] at h
    subst h
    simp only [VR] at hv ⊢
    obtain ⟨a, e⟩ := hv
    exact ⟨a, 0, e, Nat.le_refl _, .inl ⟨trivial, trivial⟩⟩
  | .sl cs n, r, v, h, _, hv => by
    simp only [frzW, Option.some.injEq] at h
    subst h
    have := VR.mono hr (.sl cs n) (RhoE.refl _) hv
    simpa [VR] using this
  | .ms l off n esz, r, v, h, hs, hv => by
    simp only [frzW, Option.bind_eq_some_iff] at h
    obtain ⟨q, h1, h2⟩ := h
    split at h2
    · rename_i hq
      simp only [Option.some.injEq] at h2
      subst h2
      simp only [VR] at hv ⊢
      obtain ⟨b, k, cap, e1, e2, e3, e4⟩ := hv
      have := hd l q h1 hs.tail b k e1
      simp only [hq.1] at this
      obtain ⟨arr, e, f, e5, e6, e7⟩ := this
      exact ⟨_, cap, e2, e3, .inr ⟨b, off, arr, e, f, rfl, (hs l (List.mem_cons_self) b k e1).trans e5, e6.all _ _, (e7.drop off).takeL _⟩⟩
    · cases h2
  | .nm, r, v, h, _, hv => by
    simp only [frzW, Option.some.injEq] at h
    subst h
    simp only [VR] at hv ⊢
    exact .inl ⟨trivial, trivial, hv⟩
  | .mp l, r, v, h, hs, hv => by
    simp only [frzW, Option.bind_eq_some_iff] at h
    obtain ⟨q, h1, h2⟩ := h
    split at h2
    · rename_i hq
      simp only [Option.some.injEq] at h2
      subst h2
      simp only [VR] at hv ⊢
      obtain ⟨b, n, e1, e2⟩ := hv
      have := hd l q h1 hs.tail b n e1
      simp only [hq] at this
      obtain ⟨es, ck, e3, e4, e5, e6, e7⟩ := this
      exact .inr ⟨b, es, ck, e2, (hs l (List.mem_cons_self) b n e1).trans e3, e4, e5, e6, e7⟩
    · cases h2
  | .rm ks vs, r, v, h, _, hv => by
    simp only [frzW, Option.some.injEq] at h
    subst h
    have := VR.mono hr (.rm ks vs) (RhoE.refl _) hv
    simpa [VR] using this
  | .nf, r, v, h, _, hv => by simp only [frzW, Option.some.injEq] at h; subst h; simpa [VR] using hv
  | .fn f a c, r, v, h, hs, hv => by
    simp only [frzW] at h
    split at h
    · rename_i gg
      simp only [Option.bind_eq_some_iff, Option.some.injEq] at h
      obtain ⟨x, h1, y, h2, rfl⟩ := h
      simp only [VR] at hv ⊢
      obtain ⟨f', a', c', e1, e2, e3, e4, e5, e6⟩ := hv
      exact ⟨f', a', c', e1, e2, (frzL_len h1).trans e3, (frzL_len h2).trans e4, frzL_ok hr hd a h1 hs.left e5, frzL_ok hr hd c h2 hs.right e6⟩
    · cases h
  | .ni, r, v, h, _, hv => by simp only [frzW, Option.some.injEq] at h; subst h; simpa [VR] using hv
  | .fc t x, r, v, h, hs, hv => by
    simp only [frzW, Option.bind_eq_some_iff, Option.some.injEq] at h
    obtain ⟨y, h1, rfl⟩ := h
    simp only [VR] at hv ⊢
    obtain ⟨x', e1, e2⟩ := hv
    exact ⟨x', e1, frz_ok hr hd x h1 hs e2⟩
  | .ag cs, r, v, h, hs, hv => by
    simp only [frzW, Option.bind_eq_some_iff, Option.some.injEq] at h
    obtain ⟨y, h1, rfl⟩ := h
    simp only [VR] at hv ⊢
    obtain ⟨arr, e1, e2, e3, e4⟩ := hv
    exact ⟨arr, e1, (frzL_len h1).trans e2, e3, frzL_ok hr hd cs h1 hs e4⟩
  | .tu cs, r, v, h, hs, hv => by
    simp only [frzW, Option.bind_eq_some_iff, Option.some.injEq] at h
    obtain ⟨y, h1, rfl⟩ := h
    simp only [VR] at hv ⊢
    obtain ⟨arr, e1, e2, e4⟩ := hv
    exact ⟨arr, e1, (frzL_len h1).trans e2, frzL_ok hr hd cs h1 hs e4⟩
  | .un, r, v, h, _, hv => by simp only [frzW] at h; cases h
theorem frzL_ok {g : G} {ro0 : Ro} {w : World} {de : Nat → Option (Bool × List V × List V × List Nat)} (hr : RoE g.ro ro0) (hd : GoodDer g ro0 w de) :
    ∀ (x : List V) {r : List V × List Nat} {v : List Value}, frzL de x = some r → Seen g ro0 w r.2 → PR g.ro x g.rho v → PR ro0 r.1 noRho v
  | [], r, v, h, _, hv => by simp only [frzL, Option.some.injEq] at h; subst h; simp [PR]
  | c :: cs, r, v, h, hs, hv => by
    simp only [frzL, Option.bind_eq_some_iff, Option.some.injEq] at h
    obtain ⟨x, h1, y, h2, rfl⟩ := h
    simp only [PR] at hv ⊢
    obtain ⟨v', r', e1, e2, e3⟩ := hv
    exact ⟨v', r', e1, frz_ok hr hd c h1 hs.left e2, frzL_ok hr hd cs h2 hs.right e3⟩
end

theorem der_ok {P : Program} {g : G} {m : Sto} {w : World} (hw : WR P g m w) {ro0 : Ro} (hr : RoE g.ro ro0) : ∀ d : Nat, GoodDer g ro0 w (der m d)
  | 0, l, r, h => by simp [der] at h
  | d + 1, l, r, h => by
    intro hs b n hb
    have ih := der_ok hw hr d
    simp only [der] at h
    split at h
    · rename_i cs ro hm
      simp only [Option.bind_eq_some_iff, Option.some.injEq] at h
      obtain ⟨x, h1, rfl⟩ := h
      obtain ⟨b', n', e1, arr, e, f, e2, e3, e4, e5, e6⟩ := hw.obj l _ hm
      rw [hb] at e1
      cases e1
      exact ⟨arr, e, f, e2, e4, frzL_ok hr ih cs h1 hs e5⟩
    · rename_i ks vs ro hm
      simp only [Option.bind_eq_some_iff, Option.some.injEq] at h
      obtain ⟨x, h1, y, h2, rfl⟩ := h
      obtain ⟨b', n', e1, es, ck, e2, e3, e4, e5, e6, e7⟩ := hw.obj l _ hm
      rw [hb] at e1
      cases e1
      exact ⟨es, ck, e2, (frzL_len h1).trans e3, (frzL_len h2).trans e4, frzL_ok (r := x) hr ih ks h1 hs.left e5, frzL_ok (r := y) hr ih vs h2 hs.right e6⟩
    · cases h

theorem freeze_ok {P : Program} {g : G} {m : Sto} {w : World} (hw : WR P g m w) {ro0 : Ro} (hr : RoE g.ro ro0) {x : V} {r : V × List Nat} {v : Value} (h : freeze m x = some r) (hs : Seen g ro0 w r.2) (hv : VR g.ro x g.rho v) : VR ro0 r.1 noRho v :=
  frz_ok hr (der_ok hw hr _) x h hs hv
theorem freezeL_ok {P : Program} {g : G} {m : Sto} {w : World} (hw : WR P g m w) {ro0 : Ro} (hr : RoE g.ro ro0) {x : List V} {r : List V × List Nat} {v : List Value} (h : freezeL m x = some r) (hs : Seen g ro0 w r.2) (hv : PR g.ro x g.rho v) : PR ro0 r.1 noRho v :=
  frzL_ok hr (der_ok hw hr _) x h hs hv

/-! What was looked into is there, and no loop. -/
def There (m : Sto) (ids : List Nat) : Prop := ∀ l ∈ ids, (∃ cs r, m l = some (.cells cs r)) ∨ ∃ ks vs r, m l = some (.map ks vs r)

theorem There.app {m : Sto} {a b : List Nat} (h : There m a) (k : There m b) : There m (a ++ b) := fun l hl => (List.mem_append.1 hl).elim (h l) (k l)

mutual
theorem frz_there {m : Sto} {de : Nat → Option (Bool × List V × List V × List Nat)} (hd : ∀ l r, de l = some r → There m (l :: r.2.2.2)) : ∀ (x : V) {r : V × List Nat}, frzW de x = some r → There m r.2
  | .b _, r, h => by simp only [frzW, Option.some.injEq] at h; subst h; intro l hl; cases hl
  | .i _ _, r, h => by simp only [frzW, Option.some.injEq] at h; subst h; intro l hl; cases hl
  | .s _, r, h => by simp only [frzW, Option.some.injEq] at h; subst h; intro l hl; cases hl
  | .np, r, h => by simp only [frzW, Option.some.injEq] at h; subst h; intro l hl; cases hl
  | .p l off, r, h => by
    simp only [frzW, Option.bind_eq_some_iff] at h
    obtain ⟨q, h1, h2⟩ := h
    split at h2
    · cases h2
    · simp only [Option.some.injEq] at h2
      subst h2
      exact hd l q h1
  | .rp cs, r, h => by simp only [frzW, Option.some.injEq] at h; subst h; intro l hl; cases hl
  | .ns, r, h => by simp only [frzW, Option.some.injEq] at h; subst h; intro l hl; cases hl
  | .sl cs n, r, h => by simp only [frzW, Option.some.injEq] at h; subst h; intro l hl; cases hl
  | .ms l off n esz, r, h => by
    simp only [frzW, Option.bind_eq_some_iff] at h
    obtain ⟨q, h1, h2⟩ := h
    split at h2
    · simp only [Option.some.injEq] at h2
      subst h2
      exact hd l q h1
    · cases h2
  | .nm, r, h => by simp only [frzW, Option.some.injEq] at h; subst h; intro l hl; cases hl
  | .mp l, r, h => by
    simp only [frzW, Option.bind_eq_some_iff] at h
    obtain ⟨q, h1, h2⟩ := h
    split at h2
    · simp only [Option.some.injEq] at h2
      subst h2
      exact hd l q h1
    · cases h2
  | .rm ks vs, r, h => by simp only [frzW, Option.some.injEq] at h; subst h; intro l hl; cases hl
  | .nf, r, h => by simp only [frzW, Option.some.injEq] at h; subst h; intro l hl; cases hl
  | .fn f a c, r, h => by
    simp only [frzW] at h
    split at h
    · simp only [Option.bind_eq_some_iff, Option.some.injEq] at h
      obtain ⟨x, h1, y, h2, rfl⟩ := h
      exact (frzL_there hd a h1).app (frzL_there hd c h2)
    · cases h
  | .ni, r, h => by simp only [frzW, Option.some.injEq] at h; subst h; intro l hl; cases hl
  | .fc t x, r, h => by
    simp only [frzW, Option.bind_eq_some_iff, Option.some.injEq] at h
    obtain ⟨y, h1, rfl⟩ := h
    exact frz_there (r := y) hd x h1
  | .ag cs, r, h => by
    simp only [frzW, Option.bind_eq_some_iff, Option.some.injEq] at h
    obtain ⟨y, h1, rfl⟩ := h
    exact frzL_there hd cs h1
  | .tu cs, r, h => by
    simp only [frzW, Option.bind_eq_some_iff, Option.some.injEq] at h
    obtain ⟨y, h1, rfl⟩ := h
    exact frzL_there hd cs h1
  | .un, r, h => by simp only [frzW] at h; cases h
theorem frzL_there {m : Sto} {de : Nat → Option (Bool × List V × List V × List Nat)} (hd : ∀ l r, de l = some r → There m (l :: r.2.2.2)) : ∀ (x : List V) {r : List V × List Nat}, frzL de x = some r → There m r.2
  | [], r, h => by simp only [frzL, Option.some.injEq] at h; subst h; intro l hl; cases hl
  | c :: cs, r, h => by
    simp only [frzL, Option.bind_eq_some_iff, Option.some.injEq] at h
    obtain ⟨x, h1, y, h2, rfl⟩ := h
    exact (frz_there hd c h1).app (frzL_there hd cs h2)
end

theorem der_there {m : Sto} : ∀ (d : Nat) (l : Nat) (r : Bool × List V × List V × List Nat), der m d l = some r → There m (l :: r.2.2.2)
  | 0, l, r, h => by simp [der] at h
  | d + 1, l, r, h => by
    have ih := der_there (m := m) d
    simp only [der] at h
    split at h
    · rename_i cs ro hm
      simp only [Option.bind_eq_some_iff, Option.some.injEq] at h
      obtain ⟨x, h1, rfl⟩ := h
      intro k hk
      rcases List.mem_cons.1 hk with rfl | hk
      · exact .inl ⟨_, _, hm⟩
      · exact frzL_there ih cs h1 k hk
    · rename_i ks vs ro hm
      simp only [Option.bind_eq_some_iff, Option.some.injEq] at h
      obtain ⟨x, h1, y, h2, rfl⟩ := h
      intro k hk
      rcases List.mem_cons.1 hk with rfl | hk
      · exact .inr ⟨_, _, _, hm⟩
      · exact (frzL_there ih ks h1).app (frzL_there ih vs h2) k hk
    · cases h

theorem freeze_there {m : Sto} {x : V} {r : V × List Nat} (h : freeze m x = some r) : There m r.2 := frz_there (der_there _) x h
theorem freezeL_there {m : Sto} {x : List V} {r : List V × List Nat} (h : freezeL m x = some r) : There m r.2 := frzL_there (der_there _) x h

/-! A value that lies nowhere. -/
theorem sc1_ok {x : V} (hx : x.sc1 = true) {ro ro' : Ro} {h h' : Rho} {v : Value} (hv : VR ro x h v) : VR ro' x h' v := by
  unfold V.sc1 at hx
  split at hx <;> first | (simp only [VR] at hv ⊢; exact hv) | skip
  · simp only [VR] at hv ⊢
    obtain ⟨a, cap, h1, h2, h3⟩ := hv
    exact ⟨a, cap, h1, h2, .inl ⟨trivial, trivial⟩⟩
  · cases hx

theorem sc1L_ok {ro ro' : Ro} {h h' : Rho} : ∀ {l : List V} {v : List Value}, (∀ x ∈ l, ∀ v', VR ro x h v' → VR ro' x h' v') → PR ro l h v → PR ro' l h' v
  | [], _, _, _ => by simp [PR]
  | c :: cs, v, hl, hv => by
    simp only [PR] at hv ⊢
    obtain ⟨v', r, e1, e2, e3⟩ := hv
    exact ⟨v', r, e1, hl c (List.mem_cons_self) _ e2, sc1L_ok (fun x hx => hl x (List.mem_cons_of_mem _ hx)) e3⟩

theorem sc2_ok {x : V} (hx : x.sc2 = true) {ro ro' : Ro} {h h' : Rho} {v : Value} (hv : VR ro x h v) : VR ro' x h' v := by
  unfold V.sc2 at hx
  split at hx
  · simp only [VR] at hv ⊢
    obtain ⟨arr, e1, e2, e3, e4⟩ := hv
    exact ⟨arr, e1, e2, e3, sc1L_ok (fun x hx' v' hv' => sc1_ok (List.all_eq_true.1 hx x hx') hv') e4⟩
  · exact sc1_ok hx hv

theorem scal_ok {x : V} (hx : x.scal = true) {ro ro' : Ro} {h h' : Rho} {v : Value} (hv : VR ro x h v) : VR ro' x h' v := by
  unfold V.scal at hx
  split at hx
  · simp only [VR] at hv ⊢
    obtain ⟨arr, e1, e2, e4⟩ := hv
    exact ⟨arr, e1, e2, sc1L_ok (fun x hx' v' hv' => sc2_ok (List.all_eq_true.1 hx x hx') hv') e4⟩
  · exact sc2_ok hx hv

end Pi
