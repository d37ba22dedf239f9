/- The machine's operations against the pure ones: operands, memory. -/
import Derived.Test.YtglibfclhecbkaaYPi3
namespace Pi
open Go (IntKind TypeId FuncId Fn BinOp UnOp LoopState Value Addr World Program undef Operand Sem Result)

/-- What an operand is, by the slots. -/
def evT (tm : Array Value) : Operand → Value
  | .tmp t => tm.getD t undef
  | .const v => v
  | .global g => .pointer (some ⟨g, 0, none⟩)
  | .func f => .func (.func f) #[] #[]

theorem eval_evT (fr : Go.Frame) : fr.eval = evT fr.tmps := by
  funext x; cases x <;> rfl

theorem cv1_ok {v : Value} {x : V} (h : cv1 v = some x) (ro : Ro) (r : Rho) : VR ro x r v ∧ v.oneCell' = true := by
  unfold cv1 at h
  split at h
  · cases h; simp [VR, Go.Value.oneCell']
  · cases h; simp [VR, Go.Value.oneCell']
  · cases h; simp [VR, Go.Value.oneCell']
  · cases h; simp [VR, Go.Value.oneCell']
  · cases h; simp [VR, Go.Value.oneCell']
  · cases h; simp [VR, Go.Value.oneCell']
  · cases h; simp [VR, Go.Value.oneCell']
  · cases h; simp [VR, Go.Value.oneCell']
  · split at h
    · cases h
      rename_i hs
      obtain ⟨h1, h2⟩ := hs
      refine ⟨?_, rfl⟩
      simp only [VR]
      exact ⟨_, _, _, rfl, rfl, h1.symm, h2.symm, trivial, trivial⟩
    · cases h
  · cases h

theorem cvL_ok : ∀ {l : List Value} {x : List V}, cvL l = some x → ∀ (ro : Ro) (r : Rho), PR ro x r l ∧ x.length = l.length ∧ OneL l
  | [], x, h, ro, r => by cases h; simp [PR, OneL]
  | v :: l, x, h, ro, r => by
    simp only [cvL, Option.bind_eq_some_iff, Option.map_eq_some_iff] at h
    obtain ⟨y, h1, l', h2, rfl⟩ := h
    obtain ⟨h3, h4⟩ := cv1_ok h1 ro r
    obtain ⟨h5, h6, h7⟩ := cvL_ok h2 ro r
    refine ⟨⟨v, l, rfl, h3, h5⟩, by simp [h6], ?_⟩
    intro u hu
    rcases List.mem_cons.1 hu with rfl | hu
    · exact h4
    · exact h7 u hu

theorem cv_ok {v : Value} {x : V} (h : cv v = some x) (ro : Ro) (r : Rho) : VR ro x r v := by
  unfold cv at h
  split at h
  · rename_i cs
    rw [Option.map_eq_some_iff] at h
    obtain ⟨l, h1, rfl⟩ := h
    obtain ⟨h2, h3, h4⟩ := cvL_ok h1 ro r
    simp only [VR]
    exact ⟨cs, rfl, by simpa using h3, h4, h2⟩
  · exact (cv1_ok h ro r).1

theorem opd_ok {g : G} {e : Env} {tm : Array Value} (he : ER g e tm) {x : Operand} {y : Opd} (h : opd x = some y) : VR g.ro (y.ev e) g.rho (evT tm x) := by
  cases x with
  | tmp t => cases h; exact he t
  | const v =>
    simp only [opd, Option.map_eq_some_iff] at h
    obtain ⟨a, h1, rfl⟩ := h
    exact cv_ok h1 _ _
  | global g => cases h
  | func f =>
    cases h
    simp only [Opd.ev, VR, evT]
    exact ⟨_, _, _, rfl, rfl, rfl, rfl, trivial, trivial⟩

theorem opds_ok {g : G} {e : Env} {tm : Array Value} (he : ER g e tm) : ∀ {l : List Operand} {y : List Opd}, opds l = some y →
    PR g.ro (y.map (Opd.ev e)) g.rho (l.map (evT tm)) ∧ y.length = l.length
  | [], y, h => by cases h; simp [PR]
  | x :: l, y, h => by
    simp only [opds, Option.bind_eq_some_iff, Option.map_eq_some_iff] at h
    obtain ⟨z, h1, l', h2, rfl⟩ := h
    obtain ⟨h3, h4⟩ := opds_ok he h2
    exact ⟨⟨_, _, rfl, opd_ok he h1, h3⟩, by simp [h4]⟩

/-! ### small runs -/
section
variable {P : Program} {w : World}
theorem run_sizeOf {t n : Nat} (h : sizeIn P t = some n) : (Go.sizeOf t).run P w = .ok n w := by
  simp only [sizeIn, Option.map_eq_some_iff] at h
  obtain ⟨i, h1, rfl⟩ := h
  simp [Go.sizeOf, Go.typeInfo, h1]
theorem run_zero {t : Nat} {v : Value} (h : zeroIn P t = some v) : (Go.zeroValue t).run P w = .ok v w := by
  simp only [zeroIn, Option.bind_eq_some_iff] at h
  obtain ⟨i, h1, h2⟩ := h
  simp [Go.zeroValue, Go.typeInfo, h1, h2]
theorem run_isAgg {t : Nat} {b : Bool} (h : aggOf P t = some b) : (Go.isAgg t).run P w = .ok b w := by
  unfold aggOf at h
  split at h
  · cases h; rename_i fs hu; simp [Go.isAgg, Go.run_underlying hu]
  · cases h; rename_i n e hu; simp [Go.isAgg, Go.run_underlying hu]
  · cases h
    rename_i d h1 h2 hu
    simp only [Go.isAgg, Sem.run_bind, Go.run_underlying hu, Result.andThen_ok]
    rfl
  · cases h
end

theorem add_none (b o j : Nat) : (⟨b, o, none⟩ : Addr).add j = ⟨b, o + j, none⟩ := by
  unfold Go.Addr.add
  split
  · rename_i h; subst h; rfl
  · rfl

theorem cell_of {w : World} {b : Nat} {arr : Array Value} {e : TypeId} {f : Nat × Nat} (h : w.heap[b]? = some (.cells arr e f)) (o : Nat) : w.cell? ⟨b, o, none⟩ = arr[o]? := by
  simp [World.cell?, h]

theorem frozen_of {w : World} {b : Nat} {arr : Array Value} {e : TypeId} {f : Nat × Nat} (h : w.heap[b]? = some (.cells arr e f)) (o : Nat) (hf : ¬ (f.1 ≤ o ∧ o < f.2)) : w.frozen? ⟨b, o, none⟩ = false := by
  simp only [World.frozen?, h]
  simp only [Bool.and_eq_false_iff, decide_eq_false_iff_not]
  omega

theorem run_loadVar {P : Program} {w : World} {t n : Nat} {g : Bool} {b o : Nat} {arr : Array Value} {e : TypeId} {f : Nat × Nat} (hg : aggOf P t = some g) (hn : sizeIn P t = some n)
    (hb : w.heap[b]? = some (.cells arr e f)) {v : Value} (hv : if g then ((arr.toList.drop o).take n).length = n ∧ v = .agg ((arr.toList.drop o).take n).toArray else arr[o]? = some v) :
    (Go.loadVar t ⟨b, o, none⟩).run P w = .ok v w := by
  cases g with
  | true =>
    obtain ⟨hlen, rfl⟩ := hv
    have := Go.run_loadCells_list (P := P) w ⟨b, o, none⟩ ((arr.toList.drop o).take n) (fun j v hj => by
      rw [add_none, cell_of hb]
      rw [List.getElem?_take] at hj
      split at hj
      · rw [List.getElem?_drop] at hj
        simpa using hj
      · cases hj)
    rw [hlen] at this
    simp [Go.loadVar, run_isAgg hg, run_sizeOf hn, this]
  | false =>
    simp only [Bool.false_eq_true, if_false] at hv
    have hc : w.cell? ⟨b, o, none⟩ = some v := by rw [cell_of hb]; exact hv
    simp [Go.loadVar, run_isAgg hg, hc]

/-- A part of some cells. -/
theorem part_rel {ro : Ro} {h : Rho} {cs : List V} {arr : Array Value} {g : Bool} {n o : Nat} {v : V} (hp : PR ro cs h arr.toList) (h1 : OneL arr.toList) (hg : getPart g n cs o = some v) :
    ∃ v', (if g then ((arr.toList.drop o).take n).length = n ∧ v' = .agg ((arr.toList.drop o).take n).toArray else arr[o]? = some v') ∧ VR ro v h v' := by
  unfold getPart at hg
  have hl := hp.len
  cases g with
  | true =>
    simp only [if_true] at hg
    split at hg
    · rename_i hle
      cases hg
      refine ⟨_, ⟨by simp at hl ⊢; omega, rfl⟩, ?_⟩
      simp only [VR]
      refine ⟨_, rfl, ?_, ?_, ?_⟩
      · simp at hl ⊢; omega
      · intro u hu; exact h1 u (List.mem_of_mem_drop (List.mem_of_mem_take (by simpa using hu)))
      · simpa using (hp.drop o).take n
    · cases hg
  | false =>
    simp only [Bool.false_eq_true, if_false] at hg
    obtain ⟨v', h2, h3⟩ := hp.get hg
    exact ⟨v', by simpa using h2, h3⟩

/-- Some values in the place of others. -/
def spliceL (l : List Value) (o : Nat) (vs : List Value) : List Value := l.take o ++ vs ++ l.drop (o + vs.length)

theorem spliceL_len (l : List Value) (o : Nat) (vs : List Value) (h : o + vs.length ≤ l.length) : (spliceL l o vs).length = l.length := by
  simp [spliceL]; omega

theorem spliceL_cons (l : List Value) (o : Nat) (v : Value) (vs : List Value) (h : o < l.length) : spliceL (l.set o v) (o + 1) vs = spliceL l o (v :: vs) := by
  unfold spliceL
  rw [List.take_set, List.drop_set]
  rw [if_pos (by omega)]
  simp only [List.length_cons]
  rw [show o + 1 + vs.length = o + (vs.length + 1) by omega]
  congr 1
  rw [List.take_succ_eq_append_getElem h, List.set_append]
  simp [List.length_take, Nat.min_eq_left (Nat.le_of_lt h)]

theorem PR.splice {ro : Ro} {h : Rho} {cs xs : List V} {l vs : List Value} {o : Nat} (r : PR ro cs h l) (r' : PR ro xs h vs) (hl : xs.length = vs.length) (ho : o + xs.length ≤ cs.length) :
    PR ro (Pi.splice cs o xs) h (spliceL l o vs) := by
  have := r.len
  unfold Pi.splice spliceL
  rw [← hl]
  exact ((r.take o).append (by simp; omega) r').append (by simp; omega) (r.drop _)

theorem OneL.splice {l vs : List Value} {o : Nat} (h : OneL l) (k : OneL vs) : OneL (spliceL l o vs) := by
  intro v hv
  simp only [spliceL, List.mem_append] at hv
  rcases hv with (hv | hv) | hv
  · exact h v (List.mem_of_mem_take hv)
  · exact k v hv
  · exact h v (List.mem_of_mem_drop hv)

theorem heap_setCell_at {w : World} {b o : Nat} {arr : Array Value} {e : TypeId} {f : Nat × Nat} (h : w.heap[b]? = some (.cells arr e f)) (v : Value) :
    (w.setCell ⟨b, o, none⟩ v).heap[b]? = some (.cells (arr.setIfInBounds o v) e f) := by
  simp [World.setCell, Array.getElem?_modify, h]

theorem heap_setCell_ne {w : World} {b o c : Nat} (v : Value) (h : c ≠ b) : (w.setCell ⟨b, o, none⟩ v).heap[c]? = w.heap[c]? := by
  simp only [World.setCell, Array.getElem?_modify]
  rw [if_neg (by omega)]

theorem WB.setCell (w : World) (a : Addr) (v : Value) : WB w (w.setCell a v) := ⟨rfl, rfl, rfl, by simp⟩

theorem run_storeCells {P : Program} {b o : Nat} {e : TypeId} {f : Nat × Nat} : ∀ (vs : List Value) (i : Nat) (w : World) (arr : Array Value), w.heap[b]? = some (.cells arr e f) →
    o + i + vs.length ≤ arr.size → OneL vs → (∀ j, j < arr.size → ¬ (f.1 ≤ j ∧ j < f.2)) →
    ∃ w', (Go.storeCells ⟨b, o, none⟩ vs i).run P w = .ok () w' ∧ w'.heap[b]? = some (.cells (spliceL arr.toList (o + i) vs).toArray e f) ∧
      (∀ c, c ≠ b → w'.heap[c]? = w.heap[c]?) ∧ WB w w'
  | [], i, w, arr, hb, _, _, _ => by
    refine ⟨w, by simp [Go.storeCells], ?_, fun _ _ => rfl, WB.refl w⟩
    rw [hb]
    simp [spliceL]
  | v :: vs, i, w, arr, hb, hl, h1, hf => by
    have hlt : o + i < arr.size := by simp at hl; omega
    have hc : w.cell? ⟨b, o + i, none⟩ = some arr[o + i] := by rw [cell_of hb]; simp [hlt]
    have hfr := frozen_of hb (o + i) (hf _ hlt)
    have hv := h1 v (by simp)
    obtain ⟨w', k1, k2, k3, k4⟩ := run_storeCells (P := P) (b := b) (o := o) (e := e) (f := f) vs (i + 1) (w.setCell ⟨b, o + i, none⟩ v) (arr.setIfInBounds (o + i) v) (heap_setCell_at hb v)
      (by simp at hl ⊢; omega) (fun u hu => h1 u (by simp [hu])) (fun j hj => hf j (by simpa using hj))
    refine ⟨w', ?_, ?_, fun c hcb => (k3 c hcb).trans (heap_setCell_ne v hcb), (WB.setCell w _ v).trans k4⟩
    · simp [Go.storeCells, add_none, Go.run_store P w _ v _ hv, hc, hfr, k1]
    · rw [k2]
      congr 2
      rw [Array.toList_setIfInBounds, show o + (i + 1) = o + i + 1 by omega, spliceL_cons _ _ _ _ (by simpa using hlt)]

/-- The cells of a value that may be put into cells. -/
theorem cells_rel {ro : Ro} {h : Rho} {x : V} {v : Value} (r : VR ro x h v) (hs : x.stor = true) : PR ro x.cells h v.cells.toList ∧ x.cells.length = v.cells.size ∧ OneL v.cells.toList := by
  have sc : ∀ {y : V} {u : Value}, y.cells = [y] → u.cells = #[u] → u.oneCell' = true → VR ro y h u → PR ro y.cells h u.cells.toList ∧ y.cells.length = u.cells.size ∧ OneL u.cells.toList := by
    intro y u e1 e2 e3 e4
    rw [e1, e2]
    refine ⟨⟨u, [], rfl, e4, trivial⟩, rfl, ?_⟩
    intro z hz
    simp at hz
    subst hz
    exact e3
  cases x with
  | ag cs =>
    simp only [VR] at r
    obtain ⟨arr, rfl, h1, h2, h3⟩ := r
    exact ⟨h3, h1, h2⟩
  | tu cs => cases hs
  | un => cases hs
  | b x => simp only [VR] at r; subst r; exact sc rfl rfl rfl (by simp [VR])
  | i k n => simp only [VR] at r; subst r; exact sc rfl rfl rfl (by simp [VR])
  | s x => simp only [VR] at r; subst r; exact sc rfl rfl rfl (by simp [VR])
  | np => simp only [VR] at r; subst r; exact sc rfl rfl rfl (by simp [VR])
  | nm => simp only [VR] at r; subst r; exact sc rfl rfl rfl (by simp [VR])
  | nf => simp only [VR] at r; subst r; exact sc rfl rfl rfl (by simp [VR])
  | ni => simp only [VR] at r; subst r; exact sc rfl rfl rfl (by simp [VR])
  | p l off => have r' := r; simp only [VR] at r; obtain ⟨_, _, _, rfl⟩ := r; exact sc rfl rfl rfl r'
  | rp cs => have r' := r; simp only [VR] at r; obtain ⟨_, _, _, _, _, rfl, _⟩ := r; exact sc rfl rfl rfl r'
  | ns => have r' := r; simp only [VR] at r; obtain ⟨_, rfl⟩ := r; exact sc rfl rfl rfl r'
  | sl cs len => have r' := r; simp only [VR] at r; obtain ⟨_, _, rfl, _⟩ := r; exact sc rfl rfl rfl r'
  | ms l off len esz => have r' := r; simp only [VR] at r; obtain ⟨_, _, _, _, rfl, _⟩ := r; exact sc rfl rfl rfl r'
  | mp l => have r' := r; simp only [VR] at r; obtain ⟨_, _, _, rfl⟩ := r; exact sc rfl rfl rfl r'
  | rm ks vs =>
    have r' := r
    simp only [VR] at r
    rcases r with ⟨_, _, rfl⟩ | ⟨_, _, _, rfl, _⟩ <;> exact sc rfl rfl rfl r'
  | fn f a c => have r' := r; simp only [VR] at r; obtain ⟨_, _, _, rfl, _⟩ := r; exact sc rfl rfl rfl r'
  | fc t x => have r' := r; simp only [VR] at r; obtain ⟨_, rfl, _⟩ := r; exact sc rfl rfl rfl r'

end Pi
