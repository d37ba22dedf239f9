/- The machine's operations against the pure ones: structs, slices' literals. -/
import Derived.Test.YtglibfclhecbkaaYPi5
namespace Pi
open Go (IntKind TypeId FuncId Fn BinOp UnOp LoopState Value Addr World Program undef Operand Sem Result)

theorem foldl_splice (off : Nat) : ∀ (l : List Value) (k : Nat) (cells : Array Value), off + k + l.length ≤ cells.size →
    ((l.zipIdx k).foldl (fun (cs : Array Value) (p : Value × Nat) => cs.setIfInBounds (off + p.2) p.1) cells).toList = spliceL cells.toList (off + k) l
  | [], k, cells, _ => by simp [spliceL]
  | v :: l, k, cells, h => by
    simp only [List.zipIdx_cons, List.foldl_cons]
    rw [foldl_splice off l (k + 1) _ (by simp at h ⊢; omega)]
    rw [Array.toList_setIfInBounds, show off + (k + 1) = off + k + 1 by omega, spliceL_cons _ _ _ _ (by simp at h ⊢; omega)]

def PartsR (place : Nat → Option (Nat × Nat)) : List (Nat × Operand) → List (Nat × Nat × Opd) → Prop
  | [], [] => True
  | (j, x) :: r, (off, n, y) :: l => place j = some (off, n) ∧ opd x = some y ∧ PartsR place r l
  | _, _ => False

theorem fill_ok {g : G} {e : Env} {tm : Array Value} (he : ER g e tm) {place : Nat → Option (Nat × Nat)} : ∀ (ps : List (Nat × Operand)) (l : List (Nat × Nat × Opd)) (z cs : List V) (cells : Array Value),
    PartsR place ps l → fill e z l = some cs → PR g.ro z g.rho cells.toList → z.length = cells.size → OneL cells.toList →
    ∃ cells', Go.Instr.fill place cells (ps.map fun p => (p.1, evT tm p.2)) = some cells' ∧ PR g.ro cs g.rho cells'.toList ∧ cs.length = cells'.size ∧ OneL cells'.toList ∧ cs.length = z.length
  | [], [], z, cs, cells, _, h, h1, h2, h3 => by
    cases h
    exact ⟨cells, rfl, h1, h2, h3, rfl⟩
  | (j, x) :: r, (off, n, y) :: l, z, cs, cells, hp, h, h1, h2, h3 => by
    obtain ⟨p1, p2, p3⟩ := hp
    simp only [fill] at h
    split at h
    · rename_i hc
      obtain ⟨c1, c2, c3⟩ := hc
      have hy := opd_ok he p2
      obtain ⟨d1, d2, d3⟩ := cells_rel hy c3
      have hsz : (spliceL cells.toList off (evT tm x).cells.toList).length = cells.size := by
        rw [spliceL_len _ _ _ (by simp; omega)]; simp
      obtain ⟨cells', k1, k2⟩ := fill_ok he r l (splice z off (y.ev e).cells) cs (spliceL cells.toList off (evT tm x).cells.toList).toArray p3 h
        (by simpa using h1.splice d1 (by simpa using d2) (by omega)) (by simp [splice]; rw [hsz]; omega) (by simpa using h3.splice d3)
      refine ⟨cells', ?_, k2.1, k2.2.1, k2.2.2.1, k2.2.2.2.trans (by simp [splice]; omega)⟩
      simp only [List.map_cons, Go.Instr.fill, p1]
      have hne : ¬ ((evT tm x).cells.size ≠ n ∨ off + (evT tm x).cells.size > cells.size) := by omega
      simp only [ne_eq, decide_not, Bool.or_eq_true, Bool.not_eq_true', decide_eq_false_iff_not, decide_eq_true_eq]
      rw [if_neg (by omega)]
      rw [← k1]
      congr 1
      apply Array.ext'
      have := foldl_splice off (evT tm x).cells.toList 0 cells (by simp; omega)
      simp only [Nat.add_zero] at this
      rw [← Array.foldl_toList, Array.toList_zipIdx]
      simpa using this
    · cases h
  | [], _ :: _, _, _, _, hp, _, _, _, _ => by cases hp
  | _ :: _, [], _, _, _, hp, _, _, _, _ => by cases hp

section
variable {P : Program} {g : G} {m : Sto} {w : World} {slot : Nat}

theorem _root_.Pi.WR.push (hw : WR P g m w) (o : Go.Obj) : WR P g m { w with heap := w.heap.push o } :=
  ⟨fun l q hl => let ⟨b, n, h1, h2⟩ := hw.obj l q hl; ⟨b, n, h1, h2.mono (RhoE.refl _) (RoE.refl _) id (heap_push_lt h2.lt)⟩, hw.inj, hw.ro, fun b q hk => by
    have := hw.keep b q hk
    rw [heap_push_lt (Array.getElem?_eq_some_iff.1 this).1]
    exact this⟩

theorem parts_ok {fs : Array Go.Field} {places : Array (Nat × Nat)} : ∀ {ps : List (Nat × Operand)} {l}, parts P fs ps = some l →
    (∀ (j : Nat) (f : Go.Field) n, fs[j]? = some f → sizeIn P f.type = some n → places[j]? = some (f.offset, n)) → PartsR (places[·]?) ps l
  | [], l, h, _ => by cases h; trivial
  | (j, x) :: r, l, h, hp => by
    simp only [parts, Option.bind_eq_some_iff, Option.map_eq_some_iff] at h
    obtain ⟨f, h1, n, h2, y, h3, l', h4, rfl⟩ := h
    exact ⟨hp j f n h1 h2, h3, parts_ok h4 hp⟩

theorem partsA_ok {size : Nat} : ∀ {ps : List (Nat × Operand)} {l}, partsA size ps = some l → PartsR (fun i => some (i * size, size)) ps l
  | [], l, h => by cases h; trivial
  | (j, x) :: r, l, h => by
    simp only [partsA, Option.bind_eq_some_iff, Option.map_eq_some_iff] at h
    obtain ⟨y, h3, l', h4, rfl⟩ := h
    exact ⟨rfl, h3, partsA_ok h4⟩

/-- The fields' places: where each size is known. -/
theorem run_places : ∀ (fs : List Go.Field), (∀ f ∈ fs, ∃ n, sizeIn P f.type = some n) →
    ∃ l : List (Nat × Nat), (fs.mapM (m := Sem) fun (f : Go.Field) => do pure (f.offset, ← Go.sizeOf f.type)).run P w = .ok l w ∧
      l.length = fs.length ∧ ∀ (j : Nat) (f : Go.Field) n, fs[j]? = some f → sizeIn P f.type = some n → l[j]? = some (f.offset, n)
  | [], _ => ⟨[], by simp, rfl, fun j f n h => by simp at h⟩
  | f :: fs, h => by
    obtain ⟨n, hn⟩ := h f (by simp)
    obtain ⟨l, h1, h2, h3⟩ := run_places fs (fun f hf => h f (by simp [hf]))
    refine ⟨(f.offset, n) :: l, ?_, by simp [h2], ?_⟩
    · simp only [List.mapM_cons, Sem.run_bind, run_sizeOf hn, Result.andThen_ok, Sem.run_pure, h1]
    · intro j f' n' hj hn'
      cases j with
      | zero =>
        simp at hj
        subst hj
        rw [hn] at hn'
        cases hn'
        rfl
      | succ j => simpa using h3 j f' n' (by simpa using hj) hn'

theorem good_build (hw : WR P g m w) {e : Env} {tm : Array Value} (he : ER g e tm) {t : TypeId} {ps : Array (Nat × Operand)} {z cs : List V} (hz : zeroL P t = some z) {l : List (Nat × Nat × Opd)}
    (hl : (match P.underlying t with
      | some (.struct fs) => if fs.toList.all (fun f => (sizeIn P f.type).isSome) then parts P fs ps.toList else none
      | some (.array _ e) => (sizeIn P e).bind fun n => partsA n ps.toList
      | _ => none) = some l) (h : fill e z l = some cs) :
    GoodV P g m w slot (.ag cs) [] ((Go.Instr.build t (ps.map fun p => (p.1, evT tm p.2))).run P w) := by
  simp only [zeroL, Option.bind_eq_some_iff] at hz
  obtain ⟨zv, h1, h2⟩ := hz
  obtain ⟨h3, h4, h5⟩ := cvL_ok h2 g.ro g.rho
  split at hl
  · rename_i fs hu
    split at hl
    · rename_i hall
      obtain ⟨pl, p1, p2, p3⟩ := run_places (P := P) (w := w) fs.toList (fun f hf => by
        have := List.all_eq_true.1 hall f hf
        exact Option.isSome_iff_exists.1 this)
      obtain ⟨cells', k1, k2, k3, k4, k5⟩ := fill_ok he ps.toList l z cs zv.cells (parts_ok (places := pl.toArray) hl (fun j f n hj hn => by simpa using p3 j f n (by simpa using hj) hn)) h h3 (by simpa using h4) h5
      refine GoodV.pure hw (v' := .agg cells') ?_ ?_
      · simp only [VR]; exact ⟨cells', rfl, k3, k4, k2⟩
      · simp only [Go.Instr.build, Sem.run_bind, run_zero h1, Result.andThen_ok, Go.run_underlying hu]
        rw [show fs.mapM (m := Sem) (fun f => do pure (f.offset, ← Go.sizeOf f.type)) = (List.toArray <$> fs.toList.mapM (m := Sem) fun f => do pure (f.offset, ← Go.sizeOf f.type)) from by
          rw [Array.mapM_eq_mapM_toList]]
        simp only [Sem.run_map, p1, Result.andThen_ok, Array.toList_map, k1, Sem.run_pure]
    · cases hl
  · rename_i n et hu
    simp only [Option.bind_eq_some_iff] at hl
    obtain ⟨sz, h6, h7⟩ := hl
    obtain ⟨cells', k1, k2, k3, k4, k5⟩ := fill_ok he ps.toList l z cs zv.cells (partsA_ok h7) h h3 (by simpa using h4) h5
    refine GoodV.pure hw (v' := .agg cells') ?_ ?_
    · simp only [VR]; exact ⟨cells', rfl, k3, k4, k2⟩
    · simp only [Go.Instr.build, Sem.run_bind, run_zero h1, Result.andThen_ok, Go.run_underlying hu, run_sizeOf h6, Array.toList_map, k1, Sem.run_pure]
  · cases hl

theorem zeros_len (z : List V) : ∀ n, (zeros z n).length = n * z.length
  | 0 => by simp [zeros]
  | n + 1 => by simp [zeros, zeros_len z n, Nat.succ_mul]; omega

theorem zeros_get (z : List V) : ∀ n i, i < n * z.length → (zeros z n)[i]? = z[i % z.length]?
  | 0, i, h => by simp at h
  | n + 1, i, h => by
    simp only [zeros]
    by_cases hi : i < z.length
    · rw [List.getElem?_append_left hi, Nat.mod_eq_of_lt hi]
    · rw [List.getElem?_append_right (by omega), zeros_get z n (i - z.length) (by rw [Nat.succ_mul] at h; omega)]
      rw [← Nat.mod_eq_sub_mod (by omega)]

theorem zeros_rel {ro : Ro} {h : Rho} {z : List V} {zv : Array Value} (hz : PR ro z h zv.toList) (hl : z.length = zv.size) (h1 : OneL zv.toList) (n k : Nat) (hk : k = n * z.length) :
    PR ro (zeros z n) h ((Array.range k).map (zv[· % zv.size]!)).toList ∧ (zeros z n).length = ((Array.range k).map (zv[· % zv.size]!)).size ∧ OneL ((Array.range k).map (zv[· % zv.size]!)).toList := by
  subst hk
  refine ⟨.mk (by simp [zeros_len]) fun i c v hc hv => ?_, by simp [zeros_len], ?_⟩
  · have hi : i < n * z.length := by
      rcases Nat.lt_or_ge i (zeros z n).length with h | h
      · rwa [zeros_len] at h
      · rw [List.getElem?_eq_none h] at hc; cases hc
    rw [zeros_get z n i hi] at hc
    have hpos : 0 < z.length := by
      rcases Nat.eq_zero_or_pos z.length with h | h
      · rw [h] at hi; simp at hi
      · exact h
    have hm : i % zv.size < zv.size := Nat.mod_lt _ (by omega)
    simp [hi] at hv
    subst hv
    rw [hl] at hc
    have := hz.at hc (v := zv[i % zv.size]!) (by simp [hm])
    exact this
  · intro v hv
    simp at hv
    obtain ⟨i, hi, rfl⟩ := hv
    have hpos : 0 < zv.size := by
      rcases Nat.eq_zero_or_pos zv.size with h | h
      · rw [hl, h] at hi; simp at hi
      · exact h
    have hm : i % zv.size < zv.size := Nat.mod_lt _ hpos
    have := h1 (zv[i % zv.size]) (by simp)
    simpa [hm] using this

theorem good_buildSlice (hw : WR P g m w) (hm : g.rho slot = none) {e : Env} {tm : Array Value} (he : ER g e tm) {t et : TypeId} {len n : Nat} {ps : Array (Nat × Operand)} {z : List V}
    (hu : P.underlying t = some (.slice et)) (hn : sizeIn P et = some n) (hz : zeroL P et = some z) (h1 : 1 ≤ n) (hzn : z.length = n) (hlim : len * n ≤ 2 ^ 24) {l : List (Nat × Nat × Opd)}
    (hl : partsA n ps.toList = some l) {v : V} {ws : Ws}
    (h : (if len = 0 then (match (generalizing := false) l with | [] => some (V.ns, ([] : Ws)) | _ => none) else (fill e (zeros z len) l).map fun cs => (V.ms slot 0 len n, [(slot, some (PObj.cells cs false))])) = some (v, ws)) :
    GoodV P g m w slot v ws ((Go.Instr.buildSlice t len (ps.map fun p => (p.1, evT tm p.2))).run P w) := by
  simp only [zeroL, Option.bind_eq_some_iff] at hz
  obtain ⟨zv, z1, z2⟩ := hz
  obtain ⟨z3, z4, z5⟩ := cvL_ok z2 g.ro g.rho
  have hlim' : ¬ (len * n > 2 ^ 24) := by omega
  by_cases h0 : len = 0
  · subst h0
    simp only [if_true] at h
    cases l with
    | nil =>
      simp only [Option.some.injEq, Prod.mk.injEq] at h
      obtain ⟨rfl, rfl⟩ := h
      have hps : ps.toList = [] := by
        cases hp : ps.toList with
        | nil => rfl
        | cons a r => rw [hp] at hl; obtain ⟨j, x⟩ := a; simp [partsA, Option.bind_eq_some_iff] at hl
      have hps' : ps = #[] := by
        apply Array.ext'; simpa using hps
      subst hps'
      refine ⟨.slice (some ⟨w.heap.size, 0, none⟩) 0 0, { w with heap := w.heap.push (.cells #[] et) }, g.rho, ?_, RhoE.refl _, fun _ _ => rfl, by simp [VR], hw.push _, WB.push _ _⟩
      have e0 : ((Array.range 0).map fun _ => (default : Value)) = #[] := by simp
      simp [Go.Instr.buildSlice, Go.run_underlying hu, run_sizeOf hn, Go.Instr.fill, Go.newRow, e0]
    | cons a r => cases h
  · simp only [h0, if_false, Option.map_eq_some_iff, Prod.mk.injEq] at h
    obtain ⟨cs, h2, rfl, rfl⟩ := h
    have hne : ¬ (len * n = 0) := by
      intro hh
      rcases Nat.mul_eq_zero.1 hh with h | h <;> omega
    obtain ⟨q1, q2, q3⟩ := zeros_rel z3 (by simpa using z4) z5 len (len * n) (by rw [hzn])
    obtain ⟨cells', k1, k2, k3, k4, k5⟩ := fill_ok he ps.toList l (zeros z len) cs _ (partsA_ok hl) h2 q1 q2 q3
    have hrun : (Go.Instr.buildSlice t len (ps.map fun p => (p.1, evT tm p.2))).run P w = .ok (.slice (some ⟨w.heap.size, 0, none⟩) len len) { w with heap := w.heap.push (.cells cells' et) } := by
      simp only [Go.Instr.buildSlice, Sem.run_bind, Go.run_underlying hu, Result.andThen_ok, run_sizeOf hn]
      rw [if_neg hlim', if_neg hne]
      simp only [Sem.run_pure, Sem.run_bind, run_zero z1, Result.andThen_ok, Array.toList_map, k1]
      simp [Go.newRow]
    refine ⟨_, _, g.rho.set slot (w.heap.size, cells'.size), hrun, Rho.set_ext hm, fun l hl => rho_set_ne _ _ hl, ?_, newCells hw hm k2 k4 et, WB.push _ _⟩
    simp only [VR]
    refine ⟨_, _, len, rho_set_same _ _ _, rfl, Nat.le_refl _, ?_⟩
    rw [← k3, k5, zeros_len, hzn]
    omega

end
end Pi
