/- The machine's operations against the pure ones: maps written, slices that grow. -/
import Derived.Test.YtglibfclhecbkaaYPi8
namespace Pi
open Go (IntKind TypeId FuncId Fn BinOp UnOp LoopState Value Addr World Program undef Operand Sem Result)

theorem sameBits_scalar {ro : Ro} {h : Rho} {k : K} {x : V} {v u : Value} (he : eqK k x x = some true) (hx : VR ro x h v) (hy : VR ro x h u) (n : Nat) : Go.Instr.sameBits n v u = true := by
  unfold eqK at he
  split at he
  · simp only [VR] at hx hy; subst hx; subst hy; simp [Go.Instr.sameBits]
  · simp only [VR] at hx hy; subst hx; subst hy; simp [Go.Instr.sameBits]
  · simp only [VR] at hx hy; subst hx; subst hy; simp only [Go.Instr.sameBits]; simpa using he
  · cases he

theorem sameBits_cells {ro : Ro} {h : Rho} (n : Nat) : ∀ {ks : List K} {cs : List V} {l r : List Value}, eqL ks cs cs = some true → PR ro cs h l → PR ro cs h r → cs.length = l.length → cs.length = r.length →
    ((l.zip r).all fun (x, y) => Go.Instr.sameBits n x y) = true
  | [], [], [], _, _, _, _, _, _ => by simp
  | k :: ks, c :: cs, v :: l, u :: r, he, hx, hy, h1, h2 => by
    simp only [eqL, Option.bind_eq_some_iff, Option.map_eq_some_iff] at he
    obtain ⟨a, e1, b, e2, e3⟩ := he
    simp at e3
    obtain ⟨rfl, rfl⟩ := e3
    simp only [PR] at hx hy
    obtain ⟨_, _, q1, q2, q3⟩ := hx
    obtain ⟨_, _, p1, p2, p3⟩ := hy
    cases q1; cases p1
    have ih := sameBits_cells (n := n) e2 q3 p3 (by simpa using h1) (by simpa using h2)
    simp only [List.zip_cons_cons, List.all_cons, sameBits_scalar e1 q2 p2, Bool.true_and]
    exact ih
  | [], [], _ :: _, _, _, _, _, h1, _ => by simp at h1
  | _, _ :: _, [], _, _, _, _, h1, _ => by simp at h1
  | _, _ :: _, _ :: _, [], _, _, _, _, h2 => by simp at h2
  | _ :: _, [], _, _, he, _, _, _, _ => by simp [eqL] at he
  | [], _ :: _, _, _, he, _, _, _, _ => by simp [eqL] at he

theorem sameBits_ok {ro : Ro} {h : Rho} {q : Q} {x : V} {v u : Value} (he : eqQ q x x = some true) (hx : VR ro x h v) (hy : VR ro x h u) : Go.Instr.sameBits 10000 v u = true := by
  cases q with
  | one k => exact sameBits_scalar he hx hy _
  | many ks =>
    cases x with
    | ag cs =>
      simp only [eqQ] at he
      simp only [VR] at hx hy
      obtain ⟨xs, rfl, a1, a2, a3⟩ := hx
      obtain ⟨ys, rfl, b1, b2, b3⟩ := hy
      simp only [Go.Instr.sameBits, Bool.and_eq_true, beq_iff_eq]
      exact ⟨by omega, sameBits_cells 9999 he a3 b3 (by simpa using a1) (by simpa using b1)⟩
    | _ => simp [eqQ] at he

theorem find_true {q : Q} {x : V} : ∀ {ks : List V} {j i : Nat}, find q x ks j = some (some i) → eqQ q x x = some true
  | [], j, i, h => by cases h
  | k :: ks, j, i, h => by
    simp only [find, Option.bind_eq_some_iff] at h
    obtain ⟨c, h1, h2⟩ := h
    cases c with
    | true => have := eqQ_true h1; subst this; exact h1
    | false => exact find_true (by simpa using h2)

section
variable {P : Program} {g : G} {m : Sto} {w : World} {slot : Nat}

theorem heap_set_ne {w : World} {b c : Nat} {o : Go.Obj} (h : c ≠ b) : ({ w with heap := w.heap.setIfInBounds b o } : World).heap[c]? = w.heap[c]? := by
  simp only [Array.getElem?_setIfInBounds]
  rw [if_neg (by omega)]

theorem heap_set_at {w : World} {b : Nat} {o o' : Go.Obj} (h : w.heap[b]? = some o) : ({ w with heap := w.heap.setIfInBounds b o' } : World).heap[b]? = some o' := by
  have := (Array.getElem?_eq_some_iff.1 h).1
  simp [this]

theorem WB.setObj (w : World) (b : Nat) (o : Go.Obj) : WB w { w with heap := w.heap.setIfInBounds b o } := ⟨rfl, rfl, rfl, by simp⟩

theorem run_getObj {b : Nat} {o : Go.Obj} (h : w.heap[b]? = some o) (hc : ∀ c e f, o ≠ .cells c e f) : (Go.getObj b).run P w = .ok o w := by
  cases o <;> first | (exact absurd rfl (hc _ _ _)) | simp [Go.getObj, Sem.run, h]
theorem run_setObj {b : Nat} {o o' : Go.Obj} (h : w.heap[b]? = some o) (hc : ∀ c e f, o ≠ .cells c e f) : (Go.setObj b o').run P w = .ok () { w with heap := w.heap.setIfInBounds b o' } := by
  cases o <;> first | (exact absurd rfl (hc _ _ _)) | simp [Go.setObj, Sem.run, h]

theorem good_mapUpdate (hw : WR P g m w) {t kt e : TypeId} {q : Q} {x y z v : V} {ws : Ws} {a u s : Value} (ht : P.underlying t = some (.map kt e)) (hq : qOf P kt = some q)
    (hx : VR g.ro x g.rho a) (hy : VR g.ro y g.rho u) (hz : VR g.ro z g.rho s)
    (h : (match (generalizing := false) x with
      | .mp l => match m l with
        | some (.map ks vs false) => (findIn q y ks).map fun
          | some j => (V.un, [(l, some (PObj.map ks (vs.set j z) false))])
          | none => (.un, [(l, some (.map (ks ++ [y]) (vs ++ [z]) false))])
        | _ => none
      | _ => none) = some (v, ws)) : v = .un ∧ GoodU P g m w slot ws ((Go.Instr.mapUpdate t a u s).run P w) := by
  cases x with
  | mp l =>
    dsimp only at h
    split at h
    · rename_i ks vs hm
      simp only [Option.map_eq_some_iff] at h
      obtain ⟨r, h1, h2⟩ := h
      simp only [VR] at hx
      obtain ⟨b, n, h3, rfl⟩ := hx
      obtain ⟨b', n', h4, es, ck, h5, h6, h7, h8, h9, h10⟩ := hw.obj l _ hm
      rw [h3] at h4
      cases h4
      have hkey : (eqQ q y y).isSome := by
        unfold findIn at h1
        split at h1
        · assumption
        · cases h1
      have hck := checkKey_ok (P := P) (w := w) hkey hy hq false
      have hf := findKey_ok (P := P) (w := w) hy hq h1 h8 (by simpa using h6)
      have hg := run_getObj (P := P) h5 (by simp)
      cases r with
      | none =>
        simp only [Prod.mk.injEq] at h2
        obtain ⟨rfl, rfl⟩ := h2
        refine ⟨rfl, { w with heap := w.heap.setIfInBounds b (.map (es.push { key := u, val := s, born := ck }) (ck + 1)) }, g.rho, ?_, RhoE.refl _, fun _ _ => rfl, ?_, WB.setObj _ _ _⟩
        · simp [Go.Instr.mapUpdate, Go.run_underlying ht, hg, hck, hf, found, run_setObj (P := P) h5 (by simp)]
        · refine WR.put hw hm h3 (by simpa using h10) (fun c hc => heap_set_ne hc) ?_
          refine ⟨_, _, heap_set_at h5, by simp [h6], by simp [h7], ?_, ?_, h10⟩
          · simpa using h8.append (by simpa using h6) (show PR g.ro [y] g.rho [u] from ⟨_, _, rfl, hy, trivial⟩)
          · simpa using h9.append (by simpa using h7) (show PR g.ro [z] g.rho [s] from ⟨_, _, rfl, hz, trivial⟩)
      | some j =>
        simp only [Prod.mk.injEq] at h2
        obtain ⟨rfl, rfl⟩ := h2
        unfold findIn at h1
        rw [if_pos hkey] at h1
        have hge := find_ge h1
        have hj : j < es.size := by simp at hge; omega
        have hkj : ks[j]? = some y := by simpa using find_eq h1
        obtain ⟨old, o1, o2⟩ := h8.get hkj
        have hold : (es[j]?).map (·.key) = some old := by simpa using o1
        have hsb := sameBits_ok (find_true h1) o2 hy
        have hfd : found es.toList 0 (some j) = some (j, es[j].val) := by simp [found, hj]
        refine ⟨rfl, { w with heap := w.heap.setIfInBounds b (.map (es.modify j fun e => { e with key := u, val := s }) ck) }, g.rho, ?_, RhoE.refl _, fun _ _ => rfl, ?_, WB.setObj _ _ _⟩
        · have hks : (Go.Instr.keyThatStays (((es[j]?).map (·.key)).getD u) u).run P w = .ok u w := by
            rw [hold]
            simp [Go.Instr.keyThatStays, hsb]
          simp only [Go.Instr.mapUpdate, Sem.run_bind, Go.run_underlying ht, Result.andThen_ok, hg, hck, hf, hfd, hks, run_setObj (P := P) h5 (by simp)]
        · refine WR.put hw hm h3 (by simpa using h10) (fun c hc => heap_set_ne hc) ?_
          refine ⟨_, _, heap_set_at h5, by simp [h6], by simp [h7], ?_, ?_, h10⟩
          · refine .mk (by simp [h6]) fun i c v hc hv => ?_
            rw [List.getElem?_map] at hv
            simp only [Array.getElem?_toList, Array.getElem?_modify] at hv
            by_cases hi : j = i
            · subst hi
              rw [hkj] at hc
              cases hc
              simp [hj] at hv
              subst hv
              exact hy
            · simp only [hi, if_false] at hv
              exact h8.at hc (by simpa using hv)
          · refine .mk (by simp [h7]) fun i c v hc hv => ?_
            rw [List.getElem?_map] at hv
            simp only [Array.getElem?_toList, Array.getElem?_modify] at hv
            by_cases hi : j = i
            · subst hi
              simp [hj] at hv
              subst hv
              rw [List.getElem?_set_self (by omega)] at hc
              cases hc
              exact hz
            · simp only [hi, if_false] at hv
              rw [List.getElem?_set_ne hi] at hc
              exact h9.at hc (by simpa using hv)
    · cases h
  | _ => cases h

theorem good_makeMap (hw : WR P g m w) (hm : g.rho slot = none) (t : TypeId) : GoodV P g m w slot (.mp slot) [(slot, some (.map [] [] false))] ((Go.Instr.makeMap t none).run P w) := by
  refine ⟨.map (some w.heap.size), { w with heap := w.heap.push (.map #[] 0) }, g.rho.set slot (w.heap.size, 0), ?_, Rho.set_ext hm, fun l hl => rho_set_ne _ _ hl, ?_, ?_, WB.push _ _⟩
  · simp [Go.Instr.makeMap]
  · simp only [VR]; exact ⟨_, _, rho_set_same _ _ _, rfl⟩
  · refine WR.new hw hm (fun b hb => heap_push_lt hb) ?_
    refine ⟨#[], 0, by simp, rfl, rfl, by simp [PR], by simp [PR], ?_⟩
    simp only [Bool.false_eq_true, if_false]
    exact hw.keep_size

theorem ofBytes_rel {ro : Ro} {h : Rho} (l : List UInt8) : PR ro (ofBytes l) h (l.map fun c => Value.int .u8 c.toNat) ∧ OneL (l.map fun c => Value.int .u8 c.toNat) := by
  constructor
  · induction l with
    | nil => simp [ofBytes, PR]
    | cons a l ih => exact ⟨_, _, rfl, by simp [VR], ih⟩
  · intro v hv
    simp at hv
    obtain ⟨c, _, rfl⟩ := hv
    rfl

/-- What is put behind a slice, or copied: its cells, in any world where memory lies as here. -/
theorem src_ok (hw : WR P g m w) {esz n : Nat} {y : V} {xs : List V} {v : Value} (hy : VR g.ro y g.rho v) (h1 : apCells m esz y = some xs) (h2 : lenV m y = some n) :
    ∃ news : List Value, PR g.ro xs g.rho news ∧ xs.length = n * esz ∧ news.length = n * esz ∧ OneL news ∧ (Go.Builtin.lenOf v).run P w = .ok n w ∧
      ∀ (k : Nat) (w' : World), k ≤ n → w'.heap = w.heap → (Go.Builtin.firstCells esz k v).run P w' = .ok (news.take (k * esz)).toArray w' := by
  cases y with
  | s a =>
    simp only [apCells] at h1
    split at h1
    · rename_i e1
      cases h1
      subst e1
      simp only [lenV, Option.some.injEq] at h2
      subst h2
      simp only [VR] at hy
      subst hy
      obtain ⟨p1, p2⟩ := ofBytes_rel (ro := g.ro) (h := g.rho) a.data.toList
      refine ⟨_, p1, ?_, ?_, p2, ?_, ?_⟩
      · rw [ofBytes, List.length_map, Array.length_toList, Nat.mul_one]; rfl
      · rw [List.length_map, Array.length_toList, Nat.mul_one]; rfl
      · simp [Go.Builtin.lenOf]
      · intro k w' hk _
        simp only [Go.Builtin.firstCells, Sem.run_pure, Nat.mul_one]
        congr 1
        apply Array.ext'
        simp [ByteArray.data_extract]
    · cases h1
  | ns =>
    simp only [apCells, slCells, Option.some.injEq] at h1
    simp only [lenV, Option.some.injEq] at h2
    subst h1; subst h2
    simp only [VR] at hy
    obtain ⟨a, rfl⟩ := hy
    refine ⟨[], by simp [PR], by simp, by simp, by simp [OneL], by simp [Go.Builtin.lenOf], ?_⟩
    intro k w' hk _
    have : k = 0 := by omega
    subst this
    cases a with
    | none => simp [Go.Builtin.firstCells]
    | some a => simp [Go.Builtin.firstCells, Go.loadCells, Go.loadCellsFrom]
  | sl cs len =>
    simp only [apCells, slCells] at h1
    split at h1
    · rename_i hl
      cases h1
      simp only [lenV, Option.some.injEq] at h2
      subst h2
      simp only [VR] at hy
      obtain ⟨a, cap, rfl, h3, h4⟩ := hy
      rcases h4 with ⟨rfl, rfl⟩ | ⟨b, o, arr, e, f, rfl, h5, h6, h7⟩
      · refine ⟨[], by simp [PR], by simp, by simp, by simp [OneL], by simp [Go.Builtin.lenOf], ?_⟩
        intro k w' hk _
        have : k = 0 := by omega
        subst this
        cases a with
        | none => simp [Go.Builtin.firstCells]
        | some a => simp [Go.Builtin.firstCells, Go.loadCells, Go.loadCellsFrom]
      · have hb := hw.keep _ _ (hw.ro _ _ h5)
        have hlen := h7.len
        have h7' := (PR.mono (h' := g.rho) (RoE.refl _) _ (fun _ _ e => by cases e) h7).take xs.length
        rw [List.take_length] at h7'
        refine ⟨(arr.toList.drop o).take xs.length, h7', hl, ?_, ?_, by simp [Go.Builtin.lenOf], ?_⟩
        · rw [List.length_take]; omega
        · exact h6
        · intro k w' hk hw'
          have hk' : k * esz ≤ xs.length := by rw [hl]; exact Nat.mul_le_mul_right _ hk
          rw [List.take_take, Nat.min_eq_left hk']
          refine Go.run_firstCells_some w' esz k _ _ _ _ ?_ ?_
          · rw [List.length_take]; omega
          · intro j u hj
            rw [add_none, cell_of (by rw [hw']; exact hb)]
            rw [List.getElem?_take] at hj
            split at hj
            · rw [List.getElem?_drop] at hj
              simpa using hj
            · cases hj
    · cases h1
  | ms l off len esz' =>
    simp only [apCells, slCells] at h1
    split at h1
    · rename_i cs r hm
      split at h1
      · rename_i hc
        obtain ⟨rfl, hc⟩ := hc
        cases h1
        simp only [lenV, Option.some.injEq] at h2
        subst h2
        simp only [VR] at hy
        obtain ⟨b, n, cap, h3, rfl, h4, h5⟩ := hy
        obtain ⟨b', n', h3', arr, e, f, h6, h7, h8, h9, h10⟩ := hw.obj l _ hm
        rw [h3] at h3'
        cases h3'
        have hlen := h9.len
        have hle : len * esz' ≤ cs.length - off := by omega
        refine ⟨(arr.toList.drop off).take (len * esz'), (h9.drop off).take _, ?_, ?_, ?_, by simp [Go.Builtin.lenOf], ?_⟩
        · rw [List.length_take, List.length_drop]; omega
        · rw [List.length_take, List.length_drop]; omega
        · intro u hu; exact h8 u (List.mem_of_mem_drop (List.mem_of_mem_take hu))
        · intro k w' hk hw'
          have hk' : k * esz' ≤ len * esz' := Nat.mul_le_mul_right _ hk
          rw [List.take_take, Nat.min_eq_left hk']
          refine Go.run_firstCells_some w' esz' k _ _ _ _ ?_ ?_
          · rw [List.length_take, List.length_drop]; omega
          · intro j u hj
            rw [add_none, cell_of (by rw [hw']; exact h6)]
            rw [List.getElem?_take] at hj
            split at hj
            · rw [List.getElem?_drop] at hj
              simpa using hj
            · cases hj
      · cases h1
    · cases h1
  | _ => simp [apCells, slCells] at h1

theorem zeroL_ok {t : TypeId} {z : List V} (hz : zeroL P t = some z) (ro : Ro) (r : Rho) : ∃ zv, zeroIn P t = some zv ∧ PR ro z r zv.cells.toList ∧ z.length = zv.cells.size ∧ OneL zv.cells.toList := by
  simp only [zeroL, Option.bind_eq_some_iff] at hz
  obtain ⟨v, h1, h2⟩ := hz
  obtain ⟨h3, h4, h5⟩ := cvL_ok h2 ro r
  exact ⟨v, h1, h3, by simpa using h4, h5⟩

theorem zeroCells_ok (zero : Array Value) (n : Nat) (h : OneL zero.toList) : (Go.Builtin.zeroCells zero n).size = n * zero.size ∧ OneL (Go.Builtin.zeroCells zero n).toList := by
  unfold Go.Builtin.zeroCells
  constructor
  · simp
  · intro v hv
    simp at hv
    obtain ⟨i, hi, rfl⟩ := hv
    have hpos : 0 < zero.size := by
      rcases Nat.eq_zero_or_pos zero.size with h0 | h0
      · rw [h0] at hi; simp at hi
      · exact h0
    have hm : i % zero.size < zero.size := Nat.mod_lt _ hpos
    have := h (zero[i % zero.size]) (by simp)
    simpa [hm] using this

/-- The machine's append, where the new elements' cells are known. -/
theorem run_append_in {t u et : TypeId} {inf : Go.TypeInfo} (ht : P.underlying t = some (.slice et)) (hu : P.underlying u = some .string ∨ ∃ e2, P.underlying u = some (.slice e2)) (hi : P.info? et = some inf)
    {b len cap n : Nat} {v : Value} {news : List Value} {arr : Array Value} {e : TypeId} {f : Nat × Nat} (hb : w.heap[b]? = some (.cells arr e f)) (hl : (Go.Builtin.lenOf v).run P w = .ok n w)
    (hf : (Go.Builtin.firstCells inf.size n v).run P w = .ok news.toArray w) (hn : news.length = n * inf.size) (h1 : OneL news) (hfit : len + n ≤ cap) (hcap : cap * inf.size ≤ arr.size)
    (hfr : ∀ j, j < arr.size → ¬ (f.1 ≤ j ∧ j < f.2)) (ty : TypeId) :
    ∃ w', (Go.Builtin.append_ #[t, u] ty #[.slice (some ⟨b, 0, none⟩) len cap, v]).run P w = .ok (.slice (some ⟨b, 0, none⟩) (len + n) cap) w' ∧
      w'.heap[b]? = some (.cells (spliceL arr.toList (len * inf.size) news).toArray e f) ∧ (∀ c, c ≠ b → w'.heap[c]? = w.heap[c]?) ∧ WB w w' := by
  have hsz : len * inf.size + news.length ≤ arr.size := by
    rw [hn, ← Nat.add_mul]
    exact Nat.le_trans (Nat.mul_le_mul_right _ hfit) hcap
  obtain ⟨w', k1, k2, k3, k4⟩ := run_storeCells (P := P) (b := b) (o := len * inf.size) (e := e) (f := f) news 0 w arr hb (by omega) h1 hfr
  refine ⟨w', ?_, by simpa using k2, k3, k4⟩
  have hsize : (Go.sizeOf et).run P w = .ok inf.size w := run_sizeOf (by simp [sizeIn, hi])
  rcases hu with hu | ⟨e2, hu⟩
  · simp [Go.Builtin.append_, Go.run_underlying ht, hsize, Go.run_underlying hu, hl, hfit, hf, add_none, k1]
  · simp [Go.Builtin.append_, Go.run_underlying ht, hsize, Go.run_underlying hu, hl, hfit, hf, add_none, k1]

theorem run_append_new {t u et : TypeId} {inf : Go.TypeInfo} (ht : P.underlying t = some (.slice et)) (hu : P.underlying u = some .string ∨ ∃ e2, P.underlying u = some (.slice e2)) (hi : P.info? et = some inf)
    {base : Option Addr} {len cap n : Nat} {v zv : Value} {olds news : List Value} (hz : inf.zero = some zv) (hl : (Go.Builtin.lenOf v).run P w = .ok n w)
    (ho : ∀ w' : World, w'.heap = w.heap → (Go.Builtin.firstCells inf.size len (.slice base len cap)).run P w' = .ok olds.toArray w')
    (hf : ∀ w' : World, w'.heap = w.heap → (Go.Builtin.firstCells inf.size n v).run P w' = .ok news.toArray w') (hbig : len + n ≤ BIG) (hby : inf.bytes ≤ LIM) (hgrow : cap < len + n) (ty : TypeId) :
    ∃ nc w', len + n ≤ nc ∧ (Go.Builtin.append_ #[t, u] ty #[.slice base len cap, v]).run P w = .ok (.slice (some ⟨w.heap.size, 0, none⟩) (len + n) nc) w' ∧
      w'.heap = w.heap.push (.cells (olds.toArray ++ news.toArray ++ Go.Builtin.zeroCells zv.cells (nc - (len + n))) et) ∧ WB w w' := by
  have hsize : (Go.sizeOf et).run P w = .ok inf.size w := run_sizeOf (by simp [sizeIn, hi])
  have hn : ¬ (len + n ≤ cap) := by omega
  have h63 : ¬ (9223372036854775807 < ((len : Int) + (n : Int))) := by unfold BIG at hbig; omega
  have hcapb : Go.Builtin.nextslicecap (len + n) cap * inf.bytes ≤ 2 * BIG * LIM := by
    refine Nat.mul_le_mul ?_ hby
    exact Nat.le_trans (Go.nextslicecap_le hgrow) (Nat.mul_le_mul_left _ hbig)
  have h48 : ¬ (281474976710656 < Go.Builtin.nextslicecap (len + n) cap * inf.bytes) := by unfold BIG LIM at hcapb; omega
  let w1 : World := { w with drawn := w.drawn + 1 }
  let nc := Go.grownCap w (len + n) cap et
  have hnc : len + n ≤ nc := by
    show len + n ≤ Go.Question.cut _ _
    simp [Go.Question.cut]
  refine ⟨nc, { w1 with heap := w.heap.push (.cells (olds.toArray ++ news.toArray ++ Go.Builtin.zeroCells zv.cells (nc - (len + n))) et) }, hnc, ?_, rfl, ⟨rfl, rfl, rfl, by simp⟩⟩
  have ho1 := ho w1 rfl
  have hf1 := hf w1 rfl
  have e1 : w.drew = w1 := rfl
  have e2 : ∀ z : Array Value, olds.toArray ++ (news.toArray ++ z) = (olds ++ news).toArray ++ z := by intro z; apply Array.ext'; simp
  rcases hu with hu | ⟨e3, hu⟩
  · simp [Go.Builtin.append_, Go.run_underlying ht, hsize, Go.run_underlying hu, hl, hn, h63, h48, Go.Question.forced, Go.typeInfo, hi, Go.zeroValue, hz, Go.newRow, e1, ho1, hf1]
    refine ⟨⟨rfl, rfl⟩, ?_⟩
    rw [e2]
    rfl
  · simp [Go.Builtin.append_, Go.run_underlying ht, hsize, Go.run_underlying hu, hl, hn, h63, h48, Go.Question.forced, Go.typeInfo, hi, Go.zeroValue, hz, Go.newRow, e1, ho1, hf1]
    refine ⟨⟨rfl, rfl⟩, ?_⟩
    rw [e2]
    rfl

theorem good_append (hw : WR P g m w) (hm : g.rho slot = none) {t u et : TypeId} {inf : Go.TypeInfo} (ht : P.underlying t = some (.slice et)) (hu : P.underlying u = some .string ∨ ∃ e2, P.underlying u = some (.slice e2))
    (hi : P.info? et = some inf) (hby : inf.bytes ≤ LIM) {z : List V} (hz : zeroL P et = some z) (hzl : z.length = inf.size) {x y v : V} {ws : Ws} {a b : Value} (hx : VR g.ro x g.rho a) (hy : VR g.ro y g.rho b) (ty : TypeId)
    (h : ((apCells m inf.size y).bind fun xs => (lenV m y).bind fun n =>
      match (generalizing := false) x with
      | .ns => if n = 0 then some (V.ns, ([] : Ws)) else if n ≤ BIG then some (.ms slot 0 n inf.size, [(slot, some (PObj.cells xs false))]) else none
      | .ms l 0 len esz' =>
        if n = 0 then some (.ms l 0 len esz', []) else
        match m l with
        | some (.cells cs false) =>
          if esz' = inf.size ∧ len * inf.size ≤ cs.length ∧ len + n ≤ BIG then
            some (.ms slot 0 (len + n) inf.size, [(l, none), (slot, some (.cells (cs.take (len * inf.size) ++ xs) false))])
          else none
        | _ => none
      | _ => none) = some (v, ws)) : GoodV P g m w slot v ws ((Go.Builtin.append_ #[t, u] ty #[a, b]).run P w) := by
  simp only [Option.bind_eq_some_iff] at h
  obtain ⟨xs, h2, n, h3, h4⟩ := h
  obtain ⟨news, n1, n2, n3, n4, n5, n6⟩ := src_ok hw hy h2 h3
  obtain ⟨zv, z1, z2, z3, z4⟩ := zeroL_ok hz g.ro g.rho
  have hzv : inf.zero = some zv := by simpa [zeroIn, hi] using z1
  have hsize : (Go.sizeOf et).run P w = .ok inf.size w := run_sizeOf (by simp [sizeIn, hi])
  have nothing : ∀ {base : Option Addr} {len cap : Nat}, n = 0 → len ≤ cap → (Go.Builtin.append_ #[t, u] ty #[.slice base len cap, b]).run P w = .ok (.slice base len cap) w := by
    intro base len cap h0 hle
    subst h0
    have hf := n6 0 w (by omega) rfl
    simp only [Nat.zero_mul, List.take_zero] at hf
    rcases hu with hu | ⟨e3, hu⟩ <;> cases base <;>
      simp [Go.Builtin.append_, Go.run_underlying ht, hsize, Go.run_underlying hu, n5, hle, hf, Go.storeCells]
  have grow : ∀ {base : Option Addr} {len cap : Nat} {olds : List Value} {cs : List V}, cap < len + n → len + n ≤ BIG → PR g.ro cs g.rho olds → cs.length = olds.length → cs.length = len * inf.size → OneL olds →
      (∀ w' : World, w'.heap = w.heap → (Go.Builtin.firstCells inf.size len (.slice base len cap)).run P w' = .ok olds.toArray w') → ∀ (m' : Sto), WR P g m' w →
      GoodV P g m' w slot (.ms slot 0 (len + n) inf.size) [(slot, some (.cells (cs ++ xs) false))] ((Go.Builtin.append_ #[t, u] ty #[.slice base len cap, b]).run P w) := by
    intro base len cap olds cs hg hb hp hl hl2 ho hf m' hw'
    obtain ⟨nc, w', k1, k2, k3, k4⟩ := run_append_new (P := P) (w := w) ht hu hi hzv n5 hf (fun w' hw' => by
      have := n6 n w' (Nat.le_refl _) hw'
      rwa [List.take_of_length_le (by omega)] at this) hb hby hg ty
    obtain ⟨q1, q2⟩ := zeroCells_ok zv.cells (nc - (len + n)) z4
    have hold : OneL (olds.toArray ++ news.toArray ++ Go.Builtin.zeroCells zv.cells (nc - (len + n))).toList := by
      intro p hp
      simp only [Array.toList_append, List.mem_append] at hp
      rcases hp with (hp | hp) | hp
      · exact ho p hp
      · exact n4 p hp
      · exact q2 p hp
    have hrel : PR g.ro (cs ++ xs) g.rho (olds.toArray ++ news.toArray ++ Go.Builtin.zeroCells zv.cells (nc - (len + n))).toList := by
      have := (hp.append hl n1).append (l := olds ++ news) (k := (Go.Builtin.zeroCells zv.cells (nc - (len + n))).toList) (ds := []) (by simp; omega) (by simp [PR])
      simpa using this
    have hnew := newCells hw' hm hrel hold et
    refine ⟨_, w', g.rho.set slot (w.heap.size, (olds.toArray ++ news.toArray ++ Go.Builtin.zeroCells zv.cells (nc - (len + n))).size), k2, Rho.set_ext hm, fun l hl => rho_set_ne _ _ hl, ?_, hnew.heap k3, k4⟩
    simp only [VR]
    refine ⟨_, _, nc, rho_set_same _ _ _, rfl, k1, ?_⟩
    simp only [Array.size_append, List.size_toArray, q1, Nat.zero_add]
    rw [← z3, hzl, n3, ← hl, hl2, ← Nat.add_mul, ← Nat.add_mul]
    exact Nat.mul_le_mul_right _ (by omega)
  cases x with
  | ns =>
    simp only [VR] at hx
    obtain ⟨base, rfl⟩ := hx
    dsimp only at h4
    split at h4
    · rename_i h0
      simp only [Option.some.injEq, Prod.mk.injEq] at h4
      obtain ⟨rfl, rfl⟩ := h4
      refine GoodV.pure hw ?_ (nothing h0 (Nat.le_refl 0))
      simp [VR]
    · rename_i h0
      split at h4
      · rename_i hb
        simp only [Option.some.injEq, Prod.mk.injEq] at h4
        obtain ⟨rfl, rfl⟩ := h4
        have := grow (base := base) (len := 0) (cap := 0) (olds := []) (cs := []) (by omega) (by omega) (by simp [PR]) rfl (by simp) (by simp [OneL]) (fun w' _ => by
          cases base with
          | none => simp [Go.Builtin.firstCells]
          | some a => simp [Go.Builtin.firstCells, Go.loadCells, Go.loadCellsFrom]) m hw
        simpa using this
      · cases h4
  | ms l off len esz' =>
    cases off with
    | succ k => cases h4
    | zero =>
      simp only [VR] at hx
      obtain ⟨bl, k, cap, e1, rfl, e2, e3⟩ := hx
      replace h4 : (if n = 0 then some (V.ms l 0 len esz', ([] : Ws)) else
        match m l with
        | some (.cells cs false) =>
          if esz' = inf.size ∧ len * inf.size ≤ cs.length ∧ len + n ≤ BIG then
            some (.ms slot 0 (len + n) inf.size, [(l, none), (slot, some (.cells (cs.take (len * inf.size) ++ xs) false))])
          else none
        | _ => none) = some (v, ws) := h4
      split at h4
      · rename_i h0
        simp only [Option.some.injEq, Prod.mk.injEq] at h4
        obtain ⟨rfl, rfl⟩ := h4
        refine GoodV.pure hw ?_ (nothing h0 e2)
        simp only [VR]
        exact ⟨bl, k, cap, e1, rfl, e2, e3⟩
      · rename_i h0
        split at h4
        · rename_i cs hml
          split at h4
          · rename_i hc
            obtain ⟨rfl, hc2, hc3⟩ := hc
            simp only [Option.some.injEq, Prod.mk.injEq] at h4
            obtain ⟨rfl, rfl⟩ := h4
            obtain ⟨b', k', e1', arr, e, f, f1, f2, f3, f4, f5, f6⟩ := hw.obj l _ hml
            rw [e1] at e1'
            cases e1'
            have hlen := f4.len
            by_cases hfit : len + n ≤ cap
            · obtain ⟨w', k1, k2, k3, k4⟩ := run_append_in (P := P) (w := w) (v := b) ht hu hi f1 n5 (by
                have := n6 n w (Nat.le_refl _) rfl
                rwa [List.take_of_length_le (by omega)] at this) n3 n4 hfit (by omega) (by rw [f2]; exact f5) ty
              have hsp : (spliceL arr.toList (len * inf.size) news).length = arr.size := by
                rw [spliceL_len]
                · simp
                · rw [n3, ← Nat.add_mul]
                  have := Nat.mul_le_mul_right inf.size hfit
                  simp only [Array.length_toList]
                  omega
              refine ⟨_, w', g.rho.set slot (bl, k), k1, Rho.set_ext hm, fun l hl => rho_set_ne _ _ hl, ?_, ?_, k4⟩
              · simp only [VR]
                exact ⟨bl, k, cap, rho_set_same _ _ _, rfl, hfit, e3⟩
              · refine WR.move hw hml e1 hm (by simpa using f6) k3 ?_
                refine ⟨_, e, f, k2, by simp [hsp, f2], by simpa using f3.splice n4, ?_, f5, f6⟩
                have hh : PR g.ro (cs.take (len * inf.size) ++ xs) g.rho (spliceL arr.toList (len * inf.size) news) := by
                  have := ((f4.take (len * inf.size)).append (by simp at hlen ⊢; omega) n1).append (ds := []) (k := arr.toList.drop (len * inf.size + news.length)) (by simp at hlen ⊢; omega) (by simp [PR])
                  simpa [spliceL] using this
                simpa using PR.mono (RoE.refl _) _ (Rho.set_ext hm) hh
            · have hcs : (cs.take (len * inf.size)).length = len * inf.size := by rw [List.length_take]; omega
              have := grow (base := some ⟨bl, 0, none⟩) (len := len) (cap := cap) (olds := arr.toList.take (len * inf.size)) (cs := cs.take (len * inf.size)) (by omega) hc3 (f4.take _) (by rw [hcs, List.length_take]; omega) hcs
                (fun p hp => f3 p (List.mem_of_mem_take hp)) (fun w' hw' => by
                  refine Go.run_firstCells_some w' inf.size len _ _ _ _ (by rw [List.length_take]; omega) ?_
                  intro j p hj
                  rw [add_none, cell_of (by rw [hw']; exact f1)]
                  rw [List.getElem?_take] at hj
                  split at hj
                  · simpa using hj
                  · cases hj) (m.set l none) (hw.drop l)
              exact this
          · cases h4
        · cases h4
  | _ => cases h4

end
end Pi
