/- The machine's operations against the pure ones: what makes, reads and writes memory. -/
import Derived.Test.YtglibfclhecbkaaYPi4
namespace Pi
open Go (IntKind TypeId FuncId Fn BinOp UnOp LoopState Value Addr World Program undef Operand Sem Result)

/-- What an operation comes to: a value, a world. -/
def GoodV (P : Program) (g : G) (m : Sto) (w : World) (slot : Nat) (v : V) (ws : Ws) (r : Result Value) : Prop :=
  ∃ v' w' h', r = .ok v' w' ∧ RhoE g.rho h' ∧ (∀ l, l ≠ slot → h' l = g.rho l) ∧ VR g.ro v h' v' ∧ WR P { g with rho := h' } (m.app ws) w' ∧ WB w w'

def GoodU (P : Program) (g : G) (m : Sto) (w : World) (slot : Nat) (ws : Ws) (r : Result Unit) : Prop :=
  ∃ w' h', r = .ok () w' ∧ RhoE g.rho h' ∧ (∀ l, l ≠ slot → h' l = g.rho l) ∧ WR P { g with rho := h' } (m.app ws) w' ∧ WB w w'

/-- As the machine goes on with it. -/
def Good (P : Program) (g : G) (m : Sto) (w : World) (slot : Nat) (v : V) (ws : Ws) (r : Result Go.Next) : Prop :=
  ∃ v' w' h', (r = .ok (.value v') w' ∨ (r = .ok .skip w' ∧ v' = undef)) ∧ RhoE g.rho h' ∧ (∀ l, l ≠ slot → h' l = g.rho l) ∧ VR g.ro v h' v' ∧
    WR P { g with rho := h' } (m.app ws) w' ∧ WB w w'

section
variable {P : Program} {g : G} {m : Sto} {w : World} {slot : Nat}

theorem GoodV.good {v : V} {ws : Ws} {s : Sem Value} (h : GoodV P g m w slot v ws (s.run P w)) :
    Good P g m w slot v ws ((do pure (.value (← s)) : Sem Go.Next).run P w) := by
  obtain ⟨v', w', h', h1, h2⟩ := h
  exact ⟨v', w', h', .inl (by simp [h1]), h2⟩

theorem GoodU.good {v : V} {ws : Ws} {s : Sem Unit} (h : GoodU P g m w slot ws (s.run P w)) (hv : v = .un) :
    Good P g m w slot v ws ((do s; pure .skip : Sem Go.Next).run P w) := by
  obtain ⟨w', h', h1, h2, h3, h4⟩ := h
  exact ⟨undef, w', h', .inr ⟨by simp [h1], rfl⟩, h2, h3, by subst hv; simp [VR], h4⟩

theorem GoodV.pure {v : V} {v' : Value} (hw : WR P g m w) (hv : VR g.ro v g.rho v') {r : Result Value} (hr : r = .ok v' w) : GoodV P g m w slot v [] r :=
  ⟨v', w, g.rho, hr, RhoE.refl _, fun _ _ => rfl, hv, hw, WB.refl w⟩

theorem WR.keep_size (hw : WR P g m w) : g.keep w.heap.size = none := by
  cases h : g.keep w.heap.size with
  | none => rfl
  | some o =>
    have := (Array.getElem?_eq_some_iff.1 (hw.keep _ _ h)).1
    omega

theorem WB.push (w : World) (o : Go.Obj) : WB w { w with heap := w.heap.push o } := ⟨rfl, rfl, rfl, by simp⟩

theorem heap_push_lt {w : World} {o : Go.Obj} {b : Nat} (h : b < w.heap.size) : ({ w with heap := w.heap.push o } : World).heap[b]? = w.heap[b]? := by
  simp only [Array.getElem?_push]
  rw [if_neg (by omega)]

/-- New cells. -/
theorem newCells (hw : WR P g m w) (hm : g.rho slot = none) {cs : List V} {cells : Array Value} (hp : PR g.ro cs g.rho cells.toList) (h1 : OneL cells.toList) (t : TypeId) :
    WR P { g with rho := g.rho.set slot (w.heap.size, cells.size) } (m.set slot (some (.cells cs false))) { w with heap := w.heap.push (.cells cells t) } := by
  refine WR.new hw hm (fun b hb => heap_push_lt hb) ?_
  refine ⟨cells, t, (0, 0), by simp, rfl, h1, PR.mono (RoE.refl _) cs (Rho.set_ext hm) hp, fun i _ => by simp, ?_⟩
  simp only [Bool.false_eq_true, if_false]
  exact hw.keep_size

theorem rho_set_same (h : Rho) (l : Nat) (r : Nat × Nat) : h.set l r l = some r := by simp [Rho.set]
theorem rho_set_ne (h : Rho) {l k : Nat} (r : Nat × Nat) (e : k ≠ l) : h.set l r k = h k := by simp [Rho.set, e]

theorem good_newVar (hw : WR P g m w) (hm : g.rho slot = none) {cs : List V} {v : Value} (hp : PR g.ro cs g.rho v.cells.toList) (h1 : OneL v.cells.toList) (t : TypeId) {s : Sem Value}
    (hs : s.run P w = .ok (.pointer (some ⟨w.heap.size, 0, none⟩)) { w with heap := w.heap.push (.cells v.cells t) }) :
    GoodV P g m w slot (.p slot 0) [(slot, some (.cells cs false))] (s.run P w) := by
  refine ⟨_, _, g.rho.set slot (w.heap.size, v.cells.size), hs, Rho.set_ext hm, fun l hl => rho_set_ne _ _ hl, ?_, newCells hw hm hp h1 t, WB.push _ _⟩
  simp only [VR]
  exact ⟨_, _, rho_set_same _ _ _, rfl⟩

theorem good_alloc (hw : WR P g m w) (hm : g.rho slot = none) {t : TypeId} {z : List V} (hz : zeroL P t = some z) :
    GoodV P g m w slot (.p slot 0) [(slot, some (.cells z false))] ((Go.Instr.alloc t true (.tuple #[])).run P w) := by
  simp only [zeroL, Option.bind_eq_some_iff] at hz
  obtain ⟨v, h1, h2⟩ := hz
  obtain ⟨h3, h4, h5⟩ := cvL_ok h2 g.ro g.rho
  refine good_newVar hw hm h3 h5 t ?_
  simp [Go.Instr.alloc, run_zero h1, Go.newVar, Go.newRow]

theorem good_box (hw : WR P g m w) (hm : g.rho slot = none) {t : TypeId} {x : V} {v : Value} (hx : VR g.ro x g.rho v) (hs : x.stor = true) :
    GoodV P g m w slot (.p slot 0) [(slot, some (.cells x.cells false))] ((Go.Instr.box t v).run P w) := by
  obtain ⟨h1, h2, h3⟩ := cells_rel hx hs
  refine good_newVar hw hm h1 h3 t ?_
  simp [Go.Instr.box, Go.newVar, Go.newRow]

theorem good_load (hw : WR P g m w) {t n : Nat} {ag : Bool} (hg : aggOf P t = some ag) (hn : sizeIn P t = some n) {x v : V} {ws : Ws} {a : Value} (hx : VR g.ro x g.rho a)
    (h : (match (generalizing := false) x with
      | .p l off => match m l with
        | some (.cells cs _) => (getPart ag n cs off).map fun v => (v, ([] : Ws))
        | _ => none
      | .rp cs => (getPart ag n cs 0).map fun v => (v, [])
      | _ => none) = some (v, ws)) : GoodV P g m w slot v ws ((Go.Instr.loadAt t a).run P w) := by
  cases x with
  | p l off =>
    dsimp only at h
    split at h
    · rename_i cs r hm
      simp only [Option.map_eq_some_iff, Prod.mk.injEq] at h
      obtain ⟨u, h1, rfl, rfl⟩ := h
      simp only [VR] at hx
      obtain ⟨b, k, h2, rfl⟩ := hx
      obtain ⟨b', k', h3, arr, e, f, h4, h5, h6, h7, h8⟩ := hw.obj l _ hm
      rw [h2] at h3
      cases h3
      obtain ⟨v', h9, h10⟩ := part_rel h7 h6 h1
      refine GoodV.pure hw h10 ?_
      simp [Go.Instr.loadAt, Go.Instr.sureAddr, run_loadVar hg hn h4 h9]
    · cases h
  | rp cs =>
    simp only [Option.map_eq_some_iff, Prod.mk.injEq] at h
    obtain ⟨u, h1, rfl, rfl⟩ := h
    simp only [VR] at hx
    obtain ⟨b, o, arr, e, f, rfl, h2, h3, h4⟩ := hx
    have hb := hw.keep _ _ (hw.ro _ _ h2)
    have h4' : PR g.ro cs (fun _ => none) ((arr.toList.drop o).take cs.length) := by
      have := h4.take cs.length
      rwa [List.take_length] at this
    have hn4 : ag = true → n ≤ cs.length := by
      intro ha
      subst ha
      simp only [getPart, if_true] at h1
      split at h1
      · omega
      · cases h1
    have hn5 : ag = false → 0 < cs.length := by
      intro ha
      subst ha
      simp only [getPart, Bool.false_eq_true, if_false] at h1
      cases cs with
      | nil => simp at h1
      | cons a b => simp
    obtain ⟨v', h5, h6⟩ := part_rel (arr := ((arr.toList.drop o).take cs.length).toArray) (by simpa using h4') (by simpa using h3) h1
    refine GoodV.pure hw (VR.mono (RoE.refl _) _ (fun _ _ e => by cases e) h6) ?_
    have h9 : if ag then ((arr.toList.drop o).take n).length = n ∧ v' = .agg ((arr.toList.drop o).take n).toArray else arr[o]? = some v' := by
      cases ag with
      | true =>
        have hn6 := hn4 rfl
        simp only [if_true, List.toList_toArray, List.drop_zero, List.take_take, Nat.min_eq_left hn6] at h5 ⊢
        exact h5
      | false =>
        have hn6 := hn5 rfl
        simp only [Bool.false_eq_true, if_false] at h5 ⊢
        simp [List.getElem?_take, hn6] at h5
        exact h5
    simp [Go.Instr.loadAt, Go.Instr.sureAddr, run_loadVar hg hn hb h9]
  | _ => cases h

theorem good_store (hw : WR P g m w) {t n : Nat} (hn : sizeIn P t = some n) {x y v : V} {ws : Ws} {a u : Value} (hx : VR g.ro x g.rho a) (hy : VR g.ro y g.rho u)
    (h : (match (generalizing := false) x with
      | .p l off => match m l with
        | some (.cells cs false) => if y.cells.length = n ∧ off + n ≤ cs.length ∧ y.stor then some (V.un, [(l, some (PObj.cells (splice cs off y.cells) false))]) else none
        | _ => none
      | _ => none) = some (v, ws)) : v = .un ∧ GoodU P g m w slot ws ((Go.Instr.storeAt t a u).run P w) := by
  cases x with
  | p l off =>
    dsimp only at h
    split at h
    · rename_i cs hm
      split at h
      · rename_i hc
        obtain ⟨hc1, hc2, hc3⟩ := hc
        simp only [Option.some.injEq, Prod.mk.injEq] at h
        obtain ⟨rfl, rfl⟩ := h
        refine ⟨rfl, ?_⟩
        simp only [VR] at hx
        obtain ⟨b, k, h2, rfl⟩ := hx
        obtain ⟨b', k', h3, arr, e, f, h4, h5, h6, h7, h8, h9⟩ := hw.obj l _ hm
        rw [h2] at h3
        cases h3
        obtain ⟨c1, c2, c3⟩ := cells_rel hy hc3
        have hlen := h7.len
        obtain ⟨w', k1, k2, k3, k4⟩ := run_storeCells (P := P) (b := b) (o := off) (e := e) (f := f) u.cells.toList 0 w arr h4 (by simp at hlen ⊢; omega) c3 (by rw [h5]; exact h8)
        have hsz : (spliceL arr.toList (off + 0) u.cells.toList).length = arr.size := by
          rw [spliceL_len _ _ _ (by simp at hlen ⊢; omega)]; simp
        refine ⟨w', g.rho, ?_, RhoE.refl _, fun _ _ => rfl, ?_, k4⟩
        · have hne : ¬ u.cells.size ≠ n := by omega
          simp [Go.Instr.storeAt, Go.Instr.sureAddr, Go.storeVar, run_sizeOf hn, k1, ← c2, hc1]
        · refine WR.put hw hm h2 (by simpa using h9) k3 ?_
          refine ⟨_, e, f, k2, ?_, ?_, ?_, h8, h9⟩
          · rw [← h5]; simpa using hsz
          · simpa using h6.splice c3
          · simpa using h7.splice c1 (by simpa using c2) (by omega)
      · cases h
    · cases h
  | _ => cases h

end
end Pi
