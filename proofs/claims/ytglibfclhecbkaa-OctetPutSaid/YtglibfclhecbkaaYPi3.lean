/- What a pure store says of the machine's memory; how it stays so. -/
import Derived.Test.YtglibfclhecbkaaYPi2
import Derived.Test.YtglibfclhecbkaaYPiC
namespace Pi
open Go (IntKind TypeId FuncId Fn BinOp UnOp LoopState Value Addr World Program undef Operand)

structure G where
  rho : Rho
  ro : Ro
  keep : Ro

def ER (g : G) (e : Env) (tm : Array Value) : Prop := ∀ t, VR g.ro (e t) g.rho (tm.getD t undef)

def JR : Option X → Option Go.Code → Prop
  | none, none => True
  | some .ret, some .ret => True
  | some (.exit i), some (.exit j) => i = j
  | _, _ => False

def LoopR (P : Program) (g : G) (q : LoopRec) (l : Go.Loop) : Prop :=
  ER g q.e l.tmps ∧ l.params.toList = q.ps ∧ (∃ N, N ≤ l.tmps.size ∧ (∀ t ∈ q.ps, t < N) ∧ comp P N l.assign = some q.asg ∧ comp P N l.body = some q.body) ∧ l.state = q.st ∧ JR q.pend l.pending ∧ ∃ fn, P.funcs[l.fn]? = some fn

def ObR (P : Program) (g : G) (w : World) (b n : Nat) : PObj → Prop
  | .cells cs r => ∃ arr e f, w.heap[b]? = some (.cells arr e f) ∧ arr.size = n ∧ OneL arr.toList ∧ PR g.ro cs g.rho arr.toList ∧
      (∀ i, i < n → ¬ (f.1 ≤ i ∧ i < f.2)) ∧ (if r then g.ro b = some (.cells arr e f) else g.keep b = none)
  | .map ks vs r => ∃ es ck, w.heap[b]? = some (.map es ck) ∧ ks.length = es.size ∧ vs.length = es.size ∧
      PR g.ro ks g.rho (es.toList.map (·.key)) ∧ PR g.ro vs g.rho (es.toList.map (·.val)) ∧ (if r then g.ro b = some (.map es ck) else g.keep b = none)
  | .loop q => ∃ l, w.heap[b]? = some (.loop l) ∧ LoopR P g q l ∧ g.keep b = none
  | .dfr => w.heap[b]? = some (.deferred (some [])) ∧ g.keep b = none

structure WR (P : Program) (g : G) (m : Sto) (w : World) : Prop where
  obj : ∀ l o, m l = some o → ∃ b n, g.rho l = some (b, n) ∧ ObR P g w b n o
  inj : ∀ l k o o' b n n', m l = some o → m k = some o' → g.rho l = some (b, n) → g.rho k = some (b, n') → l = k
  ro : ∀ b o, g.ro b = some o → g.keep b = some o
  keep : ∀ b o, g.keep b = some o → w.heap[b]? = some o

/-- The world's other parts are as they were, and no block is gone. -/
structure WB (w w' : World) : Prop where
  os : w'.os = w.os
  tape : w'.tape = w.tape
  output : w'.output = w.output
  size : w.heap.size ≤ w'.heap.size

theorem WB.refl (w : World) : WB w w := ⟨rfl, rfl, rfl, Nat.le_refl _⟩
theorem WB.trans {a b c : World} (h : WB a b) (k : WB b c) : WB a c := ⟨k.os.trans h.os, k.tape.trans h.tape, k.output.trans h.output, Nat.le_trans h.size k.size⟩

def Rho.set (h : Rho) (l : Nat) (r : Nat × Nat) : Rho := fun j => if j = l then some r else h j
theorem Rho.set_ext {h : Rho} {l : Nat} {r : Nat × Nat} (hn : h l = none) : RhoE h (h.set l r) := by
  intro j q e
  unfold Rho.set
  split
  · rename_i e'; subst e'; rw [hn] at e; cases e
  · exact e

theorem ER.mono {g g' : G} {e : Env} {tm : Array Value} (h : ER g e tm) (h1 : RhoE g.rho g'.rho) (h2 : RoE g.ro g'.ro) : ER g' e tm :=
  fun t => VR.mono h2 _ h1 (h t)

theorem LoopR.mono {P : Program} {g g' : G} {q : LoopRec} {l : Go.Loop} (h : LoopR P g q l) (h1 : RhoE g.rho g'.rho) (h2 : RoE g.ro g'.ro) : LoopR P g' q l :=
  ⟨h.1.mono h1 h2, h.2⟩

/-- An object stays as it is where its block does; 'keep' may grow elsewhere. -/
theorem ObR.mono {P : Program} {g g' : G} {w w' : World} {b n : Nat} {o : PObj} (h : ObR P g w b n o) (h1 : RhoE g.rho g'.rho) (h2 : RoE g.ro g'.ro)
    (hk : g.keep b = none → g'.keep b = none) (hb : w'.heap[b]? = w.heap[b]?) : ObR P g' w' b n o := by
  cases o with
  | cells cs r =>
    obtain ⟨arr, e, f, h3, h4, h5, h6, h7, h8⟩ := h
    refine ⟨arr, e, f, hb.trans h3, h4, h5, PR.mono h2 cs h1 h6, h7, ?_⟩
    cases r with
    | true => exact h2 _ _ h8
    | false => exact hk h8
  | map ks vs r =>
    obtain ⟨es, ck, h3, h4, h5, h6, h7, h8⟩ := h
    refine ⟨es, ck, hb.trans h3, h4, h5, PR.mono h2 ks h1 h6, PR.mono h2 vs h1 h7, ?_⟩
    cases r with
    | true => exact h2 _ _ h8
    | false => exact hk h8
  | loop q =>
    obtain ⟨l, h3, h4, h5⟩ := h
    exact ⟨l, hb.trans h3, h4.mono h1 h2, hk h5⟩
  | dfr => exact ⟨hb.trans h.1, hk h.2⟩

theorem ObR.lt {P : Program} {g : G} {w : World} {b n : Nat} {o : PObj} (h : ObR P g w b n o) : b < w.heap.size := by
  have aux : ∀ {x}, w.heap[b]? = some x → b < w.heap.size := by
    intro x hx
    exact (Array.getElem?_eq_some_iff.1 hx).1
  cases o with
  | cells cs r => obtain ⟨_, _, _, h3, _⟩ := h; exact aux h3
  | map ks vs r => obtain ⟨_, _, h3, _⟩ := h; exact aux h3
  | loop q => obtain ⟨_, h3, _⟩ := h; exact aux h3
  | dfr => exact aux h.1

theorem Sto.set_same (m : Sto) (l : Nat) (o : Option PObj) : m.set l o l = o := by simp [Sto.set]
theorem Sto.set_ne (m : Sto) {l k : Nat} (o : Option PObj) (h : k ≠ l) : m.set l o k = m k := by simp [Sto.set, h]

/-- Only the heap counts. -/
theorem WR.heap {P : Program} {g : G} {m : Sto} {w w' : World} (h : WR P g m w) (hb : w'.heap = w.heap) : WR P g m w' :=
  ⟨fun l o hl => let ⟨b, n, h1, h2⟩ := h.obj l o hl; ⟨b, n, h1, h2.mono (RhoE.refl _) (RoE.refl _) id (by rw [hb])⟩, h.inj, h.ro, fun b o hk => by rw [hb]; exact h.keep b o hk⟩

/-- A new thing. -/
theorem WR.new {P : Program} {g : G} {m : Sto} {w w' : World} {l n : Nat} {o : PObj} (h : WR P g m w) (hm : g.rho l = none)
    (hb : ∀ b, b < w.heap.size → w'.heap[b]? = w.heap[b]?)
    (ho : ObR P { g with rho := g.rho.set l (w.heap.size, n) } w' w.heap.size n o) :
    WR P { g with rho := g.rho.set l (w.heap.size, n) } (m.set l (some o)) w' := by
  have hx := Rho.set_ext (r := (w.heap.size, n)) hm
  refine ⟨fun k q hk => ?_, fun k k' q q' b n1 n2 hk hk' hr hr' => ?_, h.ro, fun b q hk => ?_⟩
  · by_cases e : k = l
    · subst e
      rw [Sto.set_same] at hk
      cases hk
      exact ⟨w.heap.size, n, by simp [Rho.set], ho⟩
    · rw [Sto.set_ne _ _ e] at hk
      obtain ⟨b, n1, h1, h2⟩ := h.obj k q hk
      exact ⟨b, n1, hx _ _ h1, h2.mono hx (RoE.refl _) id (hb b h2.lt)⟩
  · dsimp only at hr hr'
    by_cases e : k = l
    · by_cases e' : k' = l
      · exact e.trans e'.symm
      · exfalso
        subst e
        rw [Sto.set_ne _ _ e'] at hk'
        obtain ⟨b', n', h1, h2⟩ := h.obj k' q' hk'
        have := hx _ _ h1
        rw [hr'] at this
        cases this
        simp [Rho.set] at hr
        have := h2.lt
        omega
    · by_cases e' : k' = l
      · exfalso
        subst e'
        rw [Sto.set_ne _ _ e] at hk
        obtain ⟨b', n', h1, h2⟩ := h.obj k q hk
        have := hx _ _ h1
        rw [hr] at this
        cases this
        simp [Rho.set] at hr'
        have := h2.lt
        omega
      · rw [Sto.set_ne _ _ e] at hk
        rw [Sto.set_ne _ _ e'] at hk'
        have hr1 : g.rho k = some (b, n1) := by simpa [Rho.set, e] using hr
        have hr2 : g.rho k' = some (b, n2) := by simpa [Rho.set, e'] using hr'
        exact h.inj k k' q q' b n1 n2 hk hk' hr1 hr2
  · have := h.keep b q hk
    have hlt : b < w.heap.size := (Array.getElem?_eq_some_iff.1 this).1
    rw [hb b hlt]
    exact this

/-- A thing that is not read-only is another one now. -/
theorem WR.put {P : Program} {g : G} {m : Sto} {w w' : World} {l b n : Nat} {o o' : PObj} (h : WR P g m w) (hl : m l = some o) (hr : g.rho l = some (b, n))
    (hk : g.keep b = none) (hb : ∀ c, c ≠ b → w'.heap[c]? = w.heap[c]?) (ho : ObR P g w' b n o') : WR P g (m.set l (some o')) w' := by
  refine ⟨fun k q hq => ?_, fun k k' q q' c n1 n2 hq hq' h1 h2 => ?_, h.ro, fun c q hq => ?_⟩
  · by_cases e : k = l
    · subst e
      rw [Sto.set_same] at hq
      cases hq
      exact ⟨b, n, hr, ho⟩
    · rw [Sto.set_ne _ _ e] at hq
      obtain ⟨c, n1, h1, h2⟩ := h.obj k q hq
      refine ⟨c, n1, h1, h2.mono (RhoE.refl _) (RoE.refl _) id (hb c ?_)⟩
      intro ec
      subst ec
      exact e (h.inj k l q o c n1 n hq hl h1 hr)
  · have aux : ∀ {j p}, m.set l (some o') j = some p → ∃ p', m j = some p' := by
      intro j p hj
      by_cases e : j = l
      · exact ⟨o, e ▸ hl⟩
      · rw [Sto.set_ne _ _ e] at hj; exact ⟨p, hj⟩
    obtain ⟨p, hp⟩ := aux hq
    obtain ⟨p', hp'⟩ := aux hq'
    exact h.inj k k' p p' c n1 n2 hp hp' h1 h2
  · rw [hb c (fun e => by subst e; rw [hk] at hq; cases hq)]
    exact h.keep c q hq

/-- A thing is gone. -/
theorem WR.drop {P : Program} {g : G} {m : Sto} {w : World} (h : WR P g m w) (l : Nat) : WR P g (m.set l none) w := by
  have aux : ∀ {j p}, m.set l none j = some p → m j = some p := by
    intro j p hj
    by_cases e : j = l
    · subst e; rw [Sto.set_same] at hj; cases hj
    · rw [Sto.set_ne _ _ e] at hj; exact hj
  exact ⟨fun k q hq => h.obj k q (aux hq), fun k k' q q' c n1 n2 hq hq' => h.inj k k' q q' c n1 n2 (aux hq) (aux hq'), h.ro, h.keep⟩

/-- A thing is gone, and another one lies in its block. -/
theorem WR.move {P : Program} {g : G} {m : Sto} {w w' : World} {l k b n : Nat} {o o' : PObj} (h : WR P g m w) (hl : m l = some o) (hr : g.rho l = some (b, n)) (hn : g.rho k = none)
    (hk : g.keep b = none) (hb : ∀ c, c ≠ b → w'.heap[c]? = w.heap[c]?) (ho : ObR P { g with rho := g.rho.set k (b, n) } w' b n o') :
    WR P { g with rho := g.rho.set k (b, n) } ((m.set l none).set k (some o')) w' := by
  have hx := Rho.set_ext (r := (b, n)) hn
  have hlk : l ≠ k := by intro e; subst e; rw [hn] at hr; cases hr
  refine ⟨fun j q hq => ?_, fun j j' q q' c n1 n2 hq hq' h1 h2 => ?_, h.ro, fun c q hq => ?_⟩
  · by_cases e : j = k
    · subst e
      rw [Sto.set_same] at hq
      cases hq
      exact ⟨b, n, by simp [Rho.set], ho⟩
    · rw [Sto.set_ne _ _ e] at hq
      by_cases e' : j = l
      · subst e'; rw [Sto.set_same] at hq; cases hq
      · rw [Sto.set_ne _ _ e'] at hq
        obtain ⟨c, n1, h1, h2⟩ := h.obj j q hq
        refine ⟨c, n1, hx _ _ h1, h2.mono hx (RoE.refl _) id (hb c ?_)⟩
        intro ec
        subst ec
        exact e' (h.inj j l q o c n1 n hq hl h1 hr)
  · -- what each of two is, ahead of this
    have aux : ∀ {j p n3}, ((m.set l none).set k (some o')) j = some p → (g.rho.set k (b, n)) j = some (c, n3) → ∃ j0 p0 n0, m j0 = some p0 ∧ g.rho j0 = some (c, n0) ∧ ((j = k ∧ j0 = l) ∨ (j ≠ k ∧ j0 = j ∧ j ≠ l)) := by
      intro j p n3 hj hj'
      by_cases e : j = k
      · subst e
        simp [Rho.set] at hj'
        obtain ⟨rfl, rfl⟩ := hj'
        exact ⟨l, o, n, hl, hr, .inl ⟨rfl, rfl⟩⟩
      · rw [Sto.set_ne _ _ e] at hj
        by_cases e' : j = l
        · subst e'; rw [Sto.set_same] at hj; cases hj
        · rw [Sto.set_ne _ _ e'] at hj
          exact ⟨j, p, n3, hj, by simpa [Rho.set, e] using hj', .inr ⟨e, rfl, e'⟩⟩
    obtain ⟨a1, p1, m1, g1, g2, g3⟩ := aux hq h1
    obtain ⟨a2, p2, m2, k1, k2, k3⟩ := aux hq' h2
    have := h.inj a1 a2 p1 p2 c m1 m2 g1 k1 g2 k2
    subst this
    rcases g3 with ⟨e1, e2⟩ | ⟨e1, e2, e3⟩ <;> rcases k3 with ⟨f1, f2⟩ | ⟨f1, f2, f3⟩
    · exact e1.trans f1.symm
    · exact absurd (f2.symm.trans e2) f3
    · exact absurd (e2.symm.trans f2) e3
    · exact e2.symm.trans f2
  · rw [hb c (fun e => by subst e; rw [hk] at hq; cases hq)]
    exact h.keep c q hq

end Pi
