/- A value-level interpreter of the compiled code, its soundness and its rules, part 2. -/
import Derived.Test.YtglabbjideniaaaGreatFw1
import Derived.Lib.Builder
import Derived.Lib.UnsafeStr
import Derived.Laws.Externs
import Derived.KernelRfl
import Derived.Calls
set_option linter.unusedSimpArgs false
set_option linter.unusedVariables false
/- What strings.Builder needs. -/
namespace Pi
open Go (IntKind TypeId FuncId Fn BinOp UnOp LoopState Value Addr World Program undef Operand Sem Result)

/-- A thing is gone, and its block may be another. -/
theorem WR.gone {P : Program} {g : G} {m : Sto} {w w' : World} {l b n : Nat} {o : PObj} (h : WR P g m w) (hl : m l = some o) (hr : g.rho l = some (b, n))
    (hk : g.keep b = none) (hb : ∀ c, c ≠ b → w'.heap[c]? = w.heap[c]?) : WR P g (m.set l none) w' := by
  refine ⟨fun k q hq => ?_, (h.drop l).inj, h.ro, fun c q hq => ?_⟩
  · by_cases e : k = l
    · subst e; rw [Sto.set_same] at hq; cases hq
    · rw [Sto.set_ne _ _ e] at hq
      obtain ⟨c, n1, h1, h2⟩ := h.obj k q hq
      refine ⟨c, n1, h1, h2.mono (RhoE.refl _) (RoE.refl _) id (hb c ?_)⟩
      intro ec
      subst ec
      exact e (h.inj k l q o c n1 n hq hl h1 hr)
  · rw [hb c]
    · exact h.keep c q hq
    · intro e
      subst e
      rw [hk] at hq
      cases hq

section
variable {P : Program} {g : G} {m : Sto} {w : World} {slot : Nat}

theorem newTc (hw : WR P g m w) (hm : g.rho slot = none) {cs : List V} {cells : Array Value} (hp : PR g.ro cs g.rho cells.toList) (h1 : OneL cells.toList) (t : TypeId) (hl : P.cellsOf t ≠ 1 → cs.length = cells.size) :
    WR P { g with rho := g.rho.set slot (w.heap.size, cells.size) } (m.set slot (some (.tc t cs))) { w with heap := w.heap.push (.cells cells t) } := by
  refine WR.new hw hm (fun b hb => heap_push_lt hb) ?_
  exact ⟨cells, (0, 0), by simp, rfl, h1, PR.mono (RoE.refl _) cs (Rho.set_ext hm) hp, fun i _ => by simp, hw.keep_size, hl⟩

theorem good_alt (hw : WR P g m w) (hm : g.rho slot = none) {t : TypeId} {z : List V} (hz : zeroL P t = some z) :
    GoodV P g m w slot (.p slot 0) [(slot, some (.tc t z))] ((Go.Instr.alloc t true (.tuple #[])).run P w) := by
  obtain ⟨zv, h1, h3, h4, h5⟩ := zeroL_ok hz g.ro g.rho
  refine ⟨.pointer (some ⟨w.heap.size, 0, none⟩), _, g.rho.set slot (w.heap.size, zv.cells.size), ?_, Rho.set_ext hm, fun l hl => rho_set_ne _ _ hl, ?_, newTc hw hm h3 h5 t (fun _ => h4), WB.push _ _⟩
  · simp [Go.Instr.alloc, run_zero h1, Go.newVar, Go.newRow]
  · simp only [VR]
    exact ⟨_, _, rho_set_same _ _ _, rfl⟩

theorem good_pe (hw : WR P g m w) {neg : Bool} {op : BinOp} (hop : op = if neg then .neq else .eql) {t te : TypeId} {j : Go.TypeInfo} (ht : P.underlying t = some (.pointer te)) (hte : P.info? te = some j)
    {x y : V} {c : Bool} {a b : Value} (hx : VR g.ro x g.rho a) (hy : VR g.ro y g.rho b) (ox oy : Operand) (h : peV x y = some c) :
    GoodV P g m w slot (.b (if neg then !c else c)) [] ((do Go.eqGuard op t ox oy a b; Go.binOp op t a b : Sem Value).run P w) := by
  have hs : (Go.sizeOf te).run P w = .ok j.size w := run_sizeOf (by simp [sizeIn, hte])
  have key : ∃ p q, a = .pointer p ∧ b = .pointer q ∧ ∀ d : Nat, (Go.Op.equalIn (d + 1) t a b).run P w = .ok c w := by
    cases x <;> cases y <;> simp only [peV] at h <;> try cases h
    case np.np =>
      simp only [VR] at hx hy
      subst hx; subst hy
      exact ⟨_, _, rfl, rfl, fun d => by simp [Go.Op.equalIn, Go.run_underlying ht]⟩
    case np.p =>
      simp only [VR] at hx hy
      obtain ⟨b', n, e1, rfl⟩ := hy
      subst hx
      exact ⟨_, _, rfl, rfl, fun d => by simp [Go.Op.equalIn, Go.run_underlying ht]⟩
    case p.np =>
      simp only [VR] at hx hy
      obtain ⟨b', n, e1, rfl⟩ := hx
      subst hy
      exact ⟨_, _, rfl, rfl, fun d => by simp [Go.Op.equalIn, Go.run_underlying ht]⟩
    case p.p l o l' o' =>
      split at h
      · rename_i hc
        obtain ⟨rfl, rfl⟩ := hc
        cases h
        simp only [VR] at hx hy
        obtain ⟨b1, n1, e1, rfl⟩ := hx
        obtain ⟨b2, n2, e2, rfl⟩ := hy
        rw [e1] at e2
        cases e2
        refine ⟨_, _, rfl, rfl, fun d => ?_⟩
        simp [Go.Op.equalIn, Go.run_underlying ht, hs, Go.run_sameAddr_same]
      · cases h
  obtain ⟨p, q, rfl, rfl, hk⟩ := key
  refine GoodV.pure hw (v' := .bool (if neg then !c else c)) (by simp [VR]) ?_
  cases neg <;> simp only [hop, if_true, Bool.false_eq_true, if_false] <;> simp [Go.eqGuard, Go.binOp, Go.Op.equal, Go.Op.maxDepth, hk 9999]

theorem shape_of {b : Nat} {arr : Array Value} {T : TypeId} {f : Nat × Nat} (h : w.heap[b]? = some (.cells arr T f)) : w.shape? b = some (T, arr.size) := by
  simp [World.shape?, h]

theorem good_tu (hw : WR P g m w) {s d t : TypeId} {inf : Go.TypeInfo} (hs : P.underlying s = some (.pointer t)) (hd : P.underlying d = some .unsafePointer) (ht : P.info? t = some inf) (hn : inf.size ≠ 0)
    {x v : V} {ws : Ws} {a : Value} (hx : VR g.ro x g.rho a) (h : tuV x m = some (v, ws)) : GoodV P g m w slot v ws ((Go.convert s d a).run P w) := by
  cases x <;> simp only [tuV] at h <;> try cases h
  rename_i l off
  cases ho : m l with
  | none => rw [ho] at h; cases h
  | some o =>
    rw [ho] at h
    cases o <;> simp only [tuO] at h <;> try cases h
    rename_i T cs
    split at h
    · rename_i hc
      simp only [Option.some.injEq, Prod.mk.injEq] at h
      obtain ⟨rfl, rfl⟩ := h
      have hx' := hx
      simp only [VR] at hx
      obtain ⟨b, n, e1, rfl⟩ := hx
      obtain ⟨b', n', e2, arr, f, f1, f2, f3, f4, _⟩ := hw.obj l _ ho
      rw [e1] at e2
      cases e2
      have hlen := f4.len
      refine GoodV.pure hw hx' ?_
      exact Go.Lib.run_to_unsafe w _ hs hd ht hn (shape_of f1) (by simp at hlen ⊢; omega)
    · cases h

theorem seenT_ok {u T : TypeId} (h : (seenT P u).contains T = true) : P.cellsOf T = 2 ∧ Go.liesAt P P.depth T 1 0 u 1 = true := by
  have h1 := List.contains_iff_mem.1 h
  unfold seenT at h1
  have h2 := (List.mem_filter.1 h1).2
  split at h2
  · simp only [Bool.and_eq_true, beq_iff_eq] at h2
    exact h2
  · cases h2

theorem good_fu (hw : WR P g m w) {s d u : TypeId} {inf : Go.TypeInfo} (hs : P.underlying s = some .unsafePointer) (hd : P.underlying d = some (.pointer u)) (hu : P.info? u = some inf)
    {x v : V} {ws : Ws} {a : Value} (hx : VR g.ro x g.rho a) (h : fuV (seenT P u) x m = some (v, ws)) : GoodV P g m w slot v ws ((Go.convert s d a).run P w) := by
  cases x <;> simp only [fuV] at h <;> try cases h
  rename_i l off
  cases off with
  | succ k => cases h
  | zero =>
    simp only at h
    cases ho : m l with
    | none => rw [ho] at h; cases h
    | some o =>
      rw [ho] at h
      cases o <;> simp only [fuO] at h <;> try cases h
      rename_i T cs
      split at h
      · rename_i hc
        obtain ⟨hc1, hc2⟩ := hc
        obtain ⟨k1, k2⟩ := seenT_ok hc1
        simp only [Option.some.injEq, Prod.mk.injEq] at h
        obtain ⟨rfl, rfl⟩ := h
        have hx' := hx
        simp only [VR] at hx
        obtain ⟨b, n, e1, rfl⟩ := hx
        obtain ⟨b', n', e2, arr, f, f1, f2, f3, f4, f5, f6, f7⟩ := hw.obj l _ ho
        rw [e1] at e2
        cases e2
        have hn : arr.size = 2 := by rw [f2, ← f7 (by omega), hc2]
        refine GoodV.pure hw hx' ?_
        exact Go.Lib.run_from_unsafe w _ hs hd hu (shape_of f1) (by rw [hn, k1]; exact k2)
      · cases h

theorem good_sd (hw : WR P g m w) {x v : V} {ws : Ws} {a : Value} (hx : VR g.ro x g.rho a) (ts : Array TypeId) (ty : TypeId) (h : sdV x = some (v, ws)) :
    GoodV P g m w slot v ws ((Go.Builtin.unsafeSliceData_ ts ty #[a]).run P w) := by
  cases x <;> simp only [sdV] at h <;> try cases h
  rename_i l off len esz
  match esz, h with
  | 1, h =>
    simp only at h
    split at h
    · rename_i hlen
      simp only [Option.some.injEq, Prod.mk.injEq] at h
      obtain ⟨rfl, rfl⟩ := h
      simp only [VR] at hx
      obtain ⟨b, n, cap, e1, rfl, e2, e3⟩ := hx
      refine GoodV.pure hw (v' := .pointer (some ⟨b, off, none⟩)) ?_ (Go.Lib.run_unsafeSliceData_row w ts ty _ _ _ (by omega))
      simp only [VR]
      exact ⟨b, n, e1, rfl⟩
    · cases h
  | 0, h => cases h
  | n + 2, h => cases h

theorem bytesX_cons {c : V} {cs : List V} {l : List UInt8} (h : bytesX (c :: cs) = some l) : ∃ (n : Int) (l' : List UInt8), c = .i .u8 n ∧ 0 ≤ n ∧ n < 256 ∧ bytesX cs = some l' ∧ l = UInt8.ofNat n.toNat :: l' := by
  unfold bytesX at h
  split at h
  · rename_i h0; cases h0
  · rename_i n r h0
    cases h0
    split at h
    · rename_i hn
      simp only [Option.map_eq_some_iff] at h
      obtain ⟨l', h1, rfl⟩ := h
      exact ⟨n, l', rfl, hn.1, hn.2, h1, rfl⟩
    · cases h
  · cases h
theorem bytes_cells : ∀ {cs : List V} {l : List UInt8} {ro : Ro} {r : Rho} {vs : List Value}, bytesX cs = some l → PR ro cs r vs → ∀ (j : Nat) x, l[j]? = some x → vs[j]? = some (.int .u8 x.toNat)
  | [], l, ro, r, vs, h, _, j, x, hj => by
    simp only [bytesX, Option.some.injEq] at h
    subst h
    simp at hj
  | c :: cs, l, ro, r, vs, h, hp, j, x, hj => by
    obtain ⟨n, l', rfl, hn1, hn2, h1, rfl⟩ := bytesX_cons h
    simp only [PR] at hp
    obtain ⟨v, r', rfl, h2, h3⟩ := hp
    simp only [VR] at h2
    subst h2
    cases j with
    | zero =>
      simp only [List.getElem?_cons_zero, Option.some.injEq] at hj ⊢
      subst hj
      have : (UInt8.ofNat n.toNat).toNat = n.toNat := by simp; omega
      rw [this]
      congr 1
      omega
    | succ j => simpa using bytes_cells h1 h3 j x (by simpa using hj)
theorem bytesX_len : ∀ {cs : List V} {l : List UInt8}, bytesX cs = some l → l.length = cs.length
  | [], l, h => by
    simp only [bytesX, Option.some.injEq] at h
    subst h
    rfl
  | c :: cs, l, h => by
    obtain ⟨n, l', rfl, hn1, hn2, h1, rfl⟩ := bytesX_cons h
    simp [bytesX_len h1]

theorem freeze_at {w : World} {b : Nat} {arr : Array Value} {T : TypeId} {f : Nat × Nat} (h : w.heap[b]? = some (.cells arr T f)) (k : Nat) :
    (∃ f', (w.freeze ⟨b, 0, none⟩ k).heap[b]? = some (.cells arr T f')) ∧ (∀ c, c ≠ b → (w.freeze ⟨b, 0, none⟩ k).heap[c]? = w.heap[c]?) ∧ WB w (w.freeze ⟨b, 0, none⟩ k) := by
  unfold World.freeze
  split
  · exact ⟨⟨f, h⟩, fun _ _ => rfl, WB.refl w⟩
  · refine ⟨⟨if (f.fst == f.snd) = true then (0, 0 + k) else (min f.fst 0, max f.snd (0 + k)), by simp only [Array.getElem?_modify, if_pos, h, Option.map_some]⟩, fun c hc => ?_, ⟨rfl, rfl, rfl, by simp⟩⟩
    simp only [Array.getElem?_modify]
    rw [if_neg (fun e => hc e.symm)]
theorem good_us (hw : WR P g m w) {pt it e : TypeId} (hp : P.underlying pt = some (.pointer e)) (hc : P.cellsOf e = 1) {x y v : V} {ws : Ws} {a b : Value} (hx : VR g.ro x g.rho a) (hy : VR g.ro y g.rho b) (ty : TypeId) (h : usV e x y m = some (v, ws)) :
    GoodV P g m w slot v ws ((Go.Builtin.unsafeString_ #[pt, it] ty #[a, b]).run P w) := by
  unfold usV at h
  split at h
  · rename_i l n
    have key : ∀ cs : List V, (∃ o, m l = some o ∧ ∀ b' n', ObR P g w b' n' o → ∃ arr f, w.heap[b']? = some (.cells arr e f) ∧ arr.size = n' ∧ PR g.ro cs g.rho arr.toList ∧ g.keep b' = none) →
        (if 0 < n ∧ n ≤ cs.length ∧ n ≤ 9223372036854775807 then (bytesX (cs.take n.toNat)).map fun b => (V.s ⟨b.toArray⟩, [(l, some (PObj.tr e cs))]) else none) = some (v, ws) →
        GoodV P g m w slot v ws ((Go.Builtin.unsafeString_ #[pt, it] ty #[a, b]).run P w) := by
      rintro cs ⟨o, ho, hob⟩ h
      split at h
      · rename_i hcc
        obtain ⟨h1, h2, h3⟩ := hcc
        simp only [Option.map_eq_some_iff, Prod.mk.injEq] at h
        obtain ⟨bs, h4, rfl, rfl⟩ := h
        simp only [VR] at hx hy
        obtain ⟨bl, k, e1, rfl⟩ := hx
        subst hy
        obtain ⟨b', n', e2, ob⟩ := hw.obj l _ ho
        rw [e1] at e2
        cases e2
        obtain ⟨arr, f, f1, f2, f4, f6⟩ := hob _ _ ob
        have hlen := f4.len
        have hbl := bytesX_len h4
        rw [List.length_take, Nat.min_eq_left (by omega)] at hbl
        have hn : n = (bs.length : Int) := by omega
        subst hn
        have hcell : ∀ (j : Nat) x, bs[j]? = some x → w.cell? ((⟨bl, 0, none⟩ : Addr).add j) = some (.int .u8 x.toNat) := by
          intro j x hj
          have hjl : j < bs.length := (List.getElem?_eq_some_iff.1 hj).1
          have hq := bytes_cells h4 (f4.take (Int.toNat (bs.length : Int))) j x hj
          rw [List.getElem?_take, if_pos (by omega)] at hq
          rw [add_none, cell_of f1]
          simpa using hq
        have hrun := Go.Lib.run_unsafeString_row (P := P) w pt it ty e hp hc bl arr.size (shape_of f1) bs (by intro e; subst e; simp at h1) (by simp at hlen; omega) (by omega) hcell
        obtain ⟨⟨f', q1⟩, q2, q3⟩ := freeze_at f1 bs.length
        refine ⟨_, _, g.rho, hrun, RhoE.refl _, fun _ _ => rfl, by simp [VR], ?_, q3⟩
        exact WR.put hw ho e1 f6 q2 ⟨arr, f', q1, f2, f4, f6⟩
      · cases h
    cases ho : m l with
    | none => rw [ho] at h; cases h
    | some o =>
      rw [ho] at h
      cases o <;> simp only [usO] at h <;> try cases h
      · rename_i T cs
        split at h
        · rename_i hcc
          obtain ⟨rfl, hcc⟩ := hcc
          exact key cs ⟨_, ho, fun b' n' ⟨arr, f, f1, f2, f3, f4, f5, f6, f7⟩ => ⟨arr, f, f1, f2, f4, f6⟩⟩ (by rw [if_pos hcc]; exact h)
        · cases h
      · rename_i T cs
        split at h
        · rename_i hcc
          obtain ⟨rfl, hcc⟩ := hcc
          exact key cs ⟨_, ho, fun b' n' ⟨arr, f, f1, f2, f4, f6⟩ => ⟨arr, f, f1, f2, f4, f6⟩⟩ (by rw [if_pos hcc]; exact h)
        · cases h
  · cases h

theorem good_apt (hw : WR P g m w) (hm : g.rho slot = none) {t u et : TypeId} {inf : Go.TypeInfo} (ht : P.underlying t = some (.slice et)) (hu : P.underlying u = some .string)
    (hi : P.info? et = some inf) (hsz : inf.size = 1) (hby : inf.bytes ≤ LIM) (hce : P.cellsOf et = 1) {z : List V} (hz : zeroL P et = some z) (hzl : z.length = 1) {x y v : V} {ws : Ws} {a b : Value} (hx : VR g.ro x g.rho a) (hy : VR g.ro y g.rho b) (ty : TypeId)
    (h : aptV et x y m slot = some (v, ws)) : GoodV P g m w slot v ws ((Go.Builtin.append_ #[t, u] ty #[a, b]).run P w) := by
  unfold aptV at h
  split at h
  rotate_left
  · cases h
  rename_i s
  split at h
  · cases h
  rename_i hn0
  have h2 : apCells m inf.size (.s s) = some (ofBytes s.data.toList) := by rw [hsz]; rfl
  have h3 : lenV m (.s s) = some s.size := rfl
  obtain ⟨news, n1, n2, n3, n4, n5, n6⟩ := src_ok hw hy h2 h3
  obtain ⟨zv, z1, z2, z3, z4⟩ := zeroL_ok hz g.ro g.rho
  have hzv : inf.zero = some zv := by simpa [zeroIn, hi] using z1
  rw [hsz, Nat.mul_one] at n3
  have hxl : (ofBytes s.data.toList).length = s.size := by simp [ofBytes]
  have grow : ∀ {base : Option Addr} {len cap : Nat} {olds : List Value} {cs : List V}, cap < len + s.size → len + s.size ≤ BIG → PR g.ro cs g.rho olds → cs.length = olds.length → cs.length = len → OneL olds →
      (∀ w' : World, w'.heap = w.heap → (Go.Builtin.firstCells inf.size len (.slice base len cap)).run P w' = .ok olds.toArray w') → ∀ (m' : Sto), WR P g m' w →
      GoodV P g m' w slot (.ms slot 0 (len + s.size) 1) [(slot, some (.tc et (cs ++ ofBytes s.data.toList)))] ((Go.Builtin.append_ #[t, u] ty #[.slice base len cap, b]).run P w) := by
    intro base len cap olds cs hg hb hp hl hl2 ho hf m' hw'
    obtain ⟨nc, w', k1, k2, k3, k4⟩ := run_append_new (P := P) (w := w) ht (.inl hu) hi hzv n5 hf (fun w' hw' => by
      have := n6 s.size w' (Nat.le_refl _) hw'
      rwa [List.take_of_length_le (by rw [n3, hsz]; omega)] at this) hb hby hg ty
    obtain ⟨q1, q2⟩ := zeroCells_ok zv.cells (nc - (len + s.size)) z4
    have hold : OneL (olds.toArray ++ news.toArray ++ Go.Builtin.zeroCells zv.cells (nc - (len + s.size))).toList := by
      intro p hp
      simp only [Array.toList_append, List.mem_append] at hp
      rcases hp with (hp | hp) | hp
      · exact ho p hp
      · exact n4 p hp
      · exact q2 p hp
    have hrel : PR g.ro (cs ++ ofBytes s.data.toList) g.rho (olds.toArray ++ news.toArray ++ Go.Builtin.zeroCells zv.cells (nc - (len + s.size))).toList := by
      have := (hp.append hl n1).append (l := olds ++ news) (k := (Go.Builtin.zeroCells zv.cells (nc - (len + s.size))).toList) (ds := []) (by simp; omega) (by simp [PR])
      simpa using this
    have hnew := newTc hw' hm hrel hold et (fun hh => absurd hce hh)
    refine ⟨_, w', g.rho.set slot (w.heap.size, (olds.toArray ++ news.toArray ++ Go.Builtin.zeroCells zv.cells (nc - (len + s.size))).size), k2, Rho.set_ext hm, fun l hl => rho_set_ne _ _ hl, ?_, hnew.heap k3, k4⟩
    simp only [VR]
    refine ⟨_, _, nc, rho_set_same _ _ _, rfl, k1, ?_⟩
    simp only [Array.size_append, List.size_toArray, q1, Nat.zero_add]
    rw [← z3, hzl, n3, ← hl, hl2]
    omega
  split at h
  · -- nil
    simp only [VR] at hx
    obtain ⟨base, rfl⟩ := hx
    split at h
    · rename_i hb
      simp only [Option.some.injEq, Prod.mk.injEq] at h
      obtain ⟨rfl, rfl⟩ := h
      have := grow (base := base) (len := 0) (cap := 0) (olds := []) (cs := []) (by omega) (by omega) (by simp [PR]) rfl (by simp) (by simp [OneL]) (fun w' _ => by
        cases base with
        | none => simp [Go.Builtin.firstCells]
        | some a => simp [Go.Builtin.firstCells, Go.loadCells, Go.loadCellsFrom]) m hw
      simpa using this
    · cases h
  · rename_i l len
    simp only [VR] at hx
    obtain ⟨bl, k, cap, e1, rfl, e2, e3⟩ := hx
    unfold aptO at h
    split at h
    · rename_i T cs hml
      split at h
      · rename_i hc
        obtain ⟨rfl, hc2, hc3⟩ := hc
        simp only [Option.some.injEq, Prod.mk.injEq] at h
        obtain ⟨rfl, rfl⟩ := h
        obtain ⟨b', k', e1', arr, f, f1, f2, f3, f4, f5, f6, f7⟩ := hw.obj l _ hml
        rw [e1] at e1'
        cases e1'
        have hlen := f4.len
        by_cases hfit : len + s.size ≤ cap
        · obtain ⟨w', k1, k2, k3, k4⟩ := run_append_in (P := P) (w := w) (v := b) ht (.inl hu) hi f1 n5 (by
            have := n6 s.size w (Nat.le_refl _) rfl
            rwa [List.take_of_length_le (by rw [n3, hsz]; omega)] at this) (by rw [n3, hsz]; omega) n4 hfit (by rw [hsz]; omega) (by rw [f2]; exact f5) ty
          rw [hsz, Nat.mul_one] at k2
          have hsp : (spliceL arr.toList len news).length = arr.size := by
            rw [spliceL_len]
            · simp
            · rw [n3]
              simp only [Array.length_toList]
              omega
          refine ⟨_, w', g.rho.set slot (bl, k), k1, Rho.set_ext hm, fun l hl => rho_set_ne _ _ hl, ?_, ?_, k4⟩
          · simp only [VR]
            exact ⟨bl, k, cap, rho_set_same _ _ _, rfl, hfit, e3⟩
          · refine WR.move hw hml e1 hm f6 k3 ?_
            refine ⟨_, f, k2, by simp [hsp, f2], by simpa using f3.splice n4, ?_, f5, f6, fun hh => absurd hce hh⟩
            have hh : PR g.ro (cs.take len ++ ofBytes s.data.toList) g.rho (spliceL arr.toList len news) := by
              have := ((f4.take len).append (by simp at hlen ⊢; omega) n1).append (ds := []) (k := arr.toList.drop (len + news.length)) (by simp at hlen ⊢; omega) (by simp [PR])
              simpa [spliceL] using this
            simpa using PR.mono (RoE.refl _) _ (Rho.set_ext hm) hh
        · have hcs : (cs.take len).length = len := by rw [List.length_take]; omega
          have := grow (base := some ⟨bl, 0, none⟩) (len := len) (cap := cap) (olds := arr.toList.take len) (cs := cs.take len) (by omega) hc3 (f4.take _) (by rw [hcs, List.length_take]; simp at hlen ⊢; omega) hcs
            (fun p hp => f3 p (List.mem_of_mem_take hp)) (fun w' hw' => by
              refine Go.run_firstCells_some w' inf.size len _ _ _ _ (by rw [List.length_take, hsz]; simp at hlen ⊢; omega) ?_
              intro j p hj
              rw [add_none, cell_of (by rw [hw']; exact f1)]
              rw [List.getElem?_take] at hj
              split at hj
              · simpa using hj
              · cases hj) (m.set l none) (hw.drop l)
          exact this
      · cases h
    · cases h
  · cases h

theorem find_ne {fn : Go.Func} (h1 : fn.name = "internal/abi.NoEscape") (h2 : fn.origin = "") : Go.Extern.find fn = some Go.Extern.AbiNoEscape.same ∧ Go.Extern.findNext fn = none := by
  unfold Go.Extern.find Go.Extern.findNext
  rw [h1, h2]
  exact ⟨by kernel_rfl, by kernel_rfl⟩

theorem unsf_sound (hw : WR P g m w) (hm : g.rho slot = none) {e : Env} {tm : Array Value} (he : ER g e tm) {o : Go.Op} {po : POp} (hc : unsf P o = some po) {v : V} {ws : Ws} (h : opD po e m slot = some (v, ws))
    {oper : Go.Oper} (ho : oper.op = o) : Good P g m w slot v ws ((Go.execOp (evT tm) oper).run P w) := by
  subst ho
  unfold Go.execOp
  cases hop : oper.op <;> rw [hop] at hc <;> simp only [unsf] at hc
  case alloc t =>
    split at hc
    · rename_i hz
      cases hc
      simp only [opD, ubD, Option.some.injEq, Prod.mk.injEq] at h
      obtain ⟨rfl, rfl⟩ := h
      exact (good_alt hw hm hz).good
    · cases hc
  case binOp op t x y yt =>
    split at hc
    · rename_i te hu
      split at hc
      · rename_i hi
        obtain ⟨j, hj⟩ := Option.isSome_iff_exists.1 hi
        simp only [Option.bind_eq_some_iff] at hc
        obtain ⟨x', h1, y', h2, h3⟩ := hc
        split at h3
        · cases h3
          simp only [opD, ubD, Option.map_eq_some_iff, Prod.mk.injEq] at h
          obtain ⟨c, h4, rfl, rfl⟩ := h
          exact (good_pe hw (neg := false) rfl hu hj (opd_ok he h1) (opd_ok he h2) x y h4).good
        · cases h3
          simp only [opD, ubD, Option.map_eq_some_iff, Prod.mk.injEq] at h
          obtain ⟨c, h4, rfl, rfl⟩ := h
          exact (good_pe hw (neg := true) rfl hu hj (opd_ok he h1) (opd_ok he h2) x y h4).good
        · cases h3
      · cases hc
    · cases hc
  case convert s d x =>
    split at hc
    · rename_i t hs hd
      split at hc
      · rename_i inf hi
        split at hc
        · rename_i hn
          simp only [Option.map_eq_some_iff] at hc
          obtain ⟨x', h1, rfl⟩ := hc
          exact (good_tu hw hs hd hi hn (opd_ok he h1) h).good
        · cases hc
      · cases hc
    · rename_i u hs hd
      split at hc
      · rename_i hi
        obtain ⟨j, hj⟩ := Option.isSome_iff_exists.1 hi
        simp only [Option.map_eq_some_iff] at hc
        obtain ⟨x', h1, rfl⟩ := hc
        exact (good_fu hw hs hd hj (opd_ok he h1) h).good
      · cases hc
    · cases hc
  case call c =>
    obtain ⟨callee, args, argTypes⟩ := c
    have hargs : args.map (evT tm) = (args.toList.map (evT tm)).toArray := by apply Array.ext'; simp
    have hrun : ∀ {b : Go.Builtin} {ty : TypeId} {s : Sem Value}, (Go.builtin b argTypes ty (args.map fun | .const _ => true | _ => false) (args.toList.map (evT tm)).toArray = (do pure (.value (← s)))) → GoodV P g m w slot v ws (s.run P w) →
        Good P g m w slot v ws ((do let d ← Go.resolve (evT tm) ⟨.builtin b, args, argTypes⟩ ty; Go.invoke d.target d.args : Sem Go.Next).run P w) := by
      intro b ty s h1 h2
      have := h2.good
      rw [← h1, ← hargs] at this
      simp only [Go.resolve, Go.invoke, Sem.run_bind, Sem.run_pure, Result.andThen_ok]
      exact this
    simp only at hc
    split at hc
    · rename_i k
      split at hc
      · rename_i fn x hf ha
        split at hc
        · rename_i hcc
          obtain ⟨c1, c2, c3⟩ := hcc
          simp only [Option.map_eq_some_iff] at hc
          obtain ⟨x', h1, rfl⟩ := hc
          simp only [opD, Option.some.injEq, Prod.mk.injEq] at h
          obtain ⟨rfl, rfl⟩ := h
          obtain ⟨f1, f2⟩ := find_ne c1 c2
          refine ⟨evT tm x, w, g.rho, .inl ?_, RhoE.refl _, fun _ _ => rfl, opd_ok he h1, hw, WB.refl w⟩
          have hr := Go.run_callFunc_extern (P := P) hf (by rw [c1]; rfl) c3 f2 f1 #[evT tm x] w
          have hr2 : (Go.callFunc k #[evT tm x]).run P w = .ok (.value (evT tm x)) w := by rw [hr, Go.Lib.run_noEscape]; rfl
          have hargs2 : args.map (evT tm) = #[evT tm x] := by rw [hargs, ha]; rfl
          simp only [Go.resolve, hargs2]
          have hev : evT tm (.func k) = .func (.func k) #[] #[] := rfl
          simp [Go.Deferred.ofValue, Go.invoke, hev, hr2]
        · cases hc
      · cases hc
    · split at hc
      · rename_i s x t u ha ht
        have hat : argTypes = #[t, u] := by apply Array.ext'; simpa using ht
        split at hc
        · rename_i et hu hu2
          split at hc
          · rename_i inf hi
            split at hc
            · rename_i hcc
              obtain ⟨c1, c2, c3, c4⟩ := hcc
              simp only [Option.map_eq_some_iff] at c4
              obtain ⟨z, hz, hzl⟩ := c4
              simp only [Option.bind_eq_some_iff, Option.map_eq_some_iff] at hc
              obtain ⟨s', h4, x', h5, rfl⟩ := hc
              refine hrun rfl ?_
              rw [ha, hat]
              exact good_apt hw hm hu hu2 hi c1 c2 c3 hz hzl (opd_ok he h4) (opd_ok he h5) _ h
            · cases hc
          · cases hc
        · cases hc
      · cases hc
    · split at hc
      · rename_i x ha
        simp only [Option.map_eq_some_iff] at hc
        obtain ⟨x', h1, rfl⟩ := hc
        refine hrun rfl ?_
        rw [ha]
        exact good_sd hw (opd_ok he h1) _ _ h
      · cases hc
    · split at hc
      · rename_i p n pt it ha ht
        have hat : argTypes = #[pt, it] := by apply Array.ext'; simpa using ht
        split at hc
        · rename_i et hu
          split at hc
          · rename_i hcc
            simp only [Option.bind_eq_some_iff, Option.map_eq_some_iff] at hc
            obtain ⟨p', h1, n', h2, rfl⟩ := hc
            refine hrun rfl ?_
            rw [ha, hat]
            exact good_us hw hu hcc (opd_ok he h1) (opd_ok he h2) _ h
          · cases hc
        · cases hc
      · cases hc
    · cases hc
  all_goals cases hc
end
end Pi


/- All operations together. -/
namespace Pi
open Go (IntKind TypeId FuncId Fn BinOp UnOp LoopState Value Addr World Program undef Operand Sem Result)

section
variable {P : Program} {g : G} {m : Sto} {w : World} {slot : Nat}

theorem opdO_none {o : Option Operand} (h : opdO o = some none) : o = none := by
  cases o with
  | none => rfl
  | some x => simp [opdO] at h

theorem opD_call (hw : WR P g m w) (hm : g.rho slot = none) {e : Env} {tm : Array Value} (he : ER g e tm) {c : Go.Call} {po : POp} (hc : compCall P c = some po) {v : V} {ws : Ws} (h : opD po e m slot = some (v, ws)) (ty : TypeId) :
    Good P g m w slot v ws ((do let d ← Go.resolve (evT tm) c ty; Go.invoke d.target d.args : Sem Go.Next).run P w) := by
  obtain ⟨callee, args, argTypes⟩ := c
  have hargs : args.map (evT tm) = (args.toList.map (evT tm)).toArray := by apply Array.ext'; simp
  cases callee with
  | value f =>
    simp only [compCall, Option.bind_eq_some_iff, Option.map_eq_some_iff] at hc
    obtain ⟨_, _, _, _, rfl⟩ := hc
    cases h
  | invoke r n => cases hc
  | builtin b =>
    have hrun : ∀ {s : Sem Value}, (Go.builtin b argTypes ty (args.map fun | .const _ => true | _ => false) (args.toList.map (evT tm)).toArray = (do pure (.value (← s)))) → GoodV P g m w slot v ws (s.run P w) →
        Good P g m w slot v ws ((do let d ← Go.resolve (evT tm) ⟨.builtin b, args, argTypes⟩ ty; Go.invoke d.target d.args : Sem Go.Next).run P w) := by
      intro s h1 h2
      have := h2.good
      rw [← h1, ← hargs] at this
      simp only [Go.resolve, Go.invoke, Sem.run_bind, Sem.run_pure, Result.andThen_ok]
      exact this
    cases b <;> simp only [compCall] at hc
    case len =>
      split at hc
      · rename_i x t ha ht
        split at hc
        · rename_i n et hu
          cases hc
          simp only [opD, Opd.ev, Option.some.injEq, Prod.mk.injEq] at h
          obtain ⟨rfl, rfl⟩ := h
          refine hrun rfl (GoodV.pure hw (v' := .int .i64 n) (by simp [VR]) ?_)
          have hat : argTypes = #[t] := by apply Array.ext'; simpa using ht
          rw [ha, hat]
          simp [Go.Builtin.len_, Go.run_underlying hu, Go.goInt]
        · rename_i hu
          simp only [Option.map_eq_some_iff] at hc
          obtain ⟨y, h1, rfl⟩ := hc
          simp only [opD, Option.map_eq_some_iff, Prod.mk.injEq] at h
          obtain ⟨n, h2, rfl, rfl⟩ := h
          refine hrun rfl ?_
          have hat : argTypes = [t].toArray := by apply Array.ext'; simpa using ht
          rw [ha, hat]
          exact good_len hw (.inl ⟨rfl, hu⟩) (opd_ok he h1) ty h2
        · rename_i et hu
          simp only [Option.map_eq_some_iff] at hc
          obtain ⟨y, h1, rfl⟩ := hc
          simp only [opD, Option.map_eq_some_iff, Prod.mk.injEq] at h
          obtain ⟨n, h2, rfl, rfl⟩ := h
          refine hrun rfl ?_
          have hat : argTypes = [t].toArray := by apply Array.ext'; simpa using ht
          rw [ha, hat]
          exact good_len hw (.inr (.inl ⟨rfl, _, hu⟩)) (opd_ok he h1) ty h2
        · rename_i kt et hu
          simp only [Option.map_eq_some_iff] at hc
          obtain ⟨y, h1, rfl⟩ := hc
          simp only [opD, Option.map_eq_some_iff, Prod.mk.injEq] at h
          obtain ⟨n, h2, rfl, rfl⟩ := h
          refine hrun rfl ?_
          have hat : argTypes = [t].toArray := by apply Array.ext'; simpa using ht
          rw [ha, hat]
          exact good_len hw (.inr (.inr ⟨rfl, _, _, hu⟩)) (opd_ok he h1) ty h2
        · cases hc
      · cases hc
    case cap =>
      split at hc
      · rename_i x t ha ht
        split at hc
        · rename_i et hu
          simp only [Option.map_eq_some_iff] at hc
          obtain ⟨y, h1, rfl⟩ := hc
          simp only [opD, Option.map_eq_some_iff, Prod.mk.injEq] at h
          obtain ⟨n, h2, rfl, rfl⟩ := h
          refine hrun rfl ?_
          have hat : argTypes = [t].toArray := by apply Array.ext'; simpa using ht
          rw [ha, hat]
          exact good_cap hw hu (opd_ok he h1) ty h2
        · cases hc
      · cases hc
    case append =>
      split at hc
      · rename_i s x t u ha ht
        have hat : argTypes = #[t, u] := by apply Array.ext'; simpa using ht
        split at hc
        · rename_i et e2 hu hu2
          simp only [Option.bind_eq_some_iff] at hc
          obtain ⟨inf, h1, z, h2, h3⟩ := hc
          split at h3
          · rename_i hcc
            simp only [Option.bind_eq_some_iff, Option.map_eq_some_iff] at h3
            obtain ⟨s', h4, x', h5, rfl⟩ := h3
            refine hrun rfl ?_
            rw [ha, hat]
            exact good_append hw hm hu (.inr ⟨_, hu2⟩) h1 hcc.2.1 h2 hcc.2.2 (opd_ok he h4) (opd_ok he h5) ty h
          · cases h3
        · rename_i et hu hu2
          simp only [Option.bind_eq_some_iff] at hc
          obtain ⟨inf, h1, z, h2, h3⟩ := hc
          split at h3
          · rename_i hcc
            simp only [Option.bind_eq_some_iff, Option.map_eq_some_iff] at h3
            obtain ⟨s', h4, x', h5, rfl⟩ := h3
            refine hrun rfl ?_
            rw [ha, hat]
            exact good_append hw hm hu (.inl hu2) h1 hcc.2.1 h2 hcc.2.2 (opd_ok he h4) (opd_ok he h5) ty h
          · cases h3
        · rename_i et k hu hu2
          simp only [Option.bind_eq_some_iff] at hc
          obtain ⟨inf, h1, z, h2, h3⟩ := hc
          split at h3
          · rename_i hcc
            simp only [Option.bind_eq_some_iff, Option.map_eq_some_iff] at h3
            obtain ⟨s', h4, x', h5, rfl⟩ := h3
            refine hrun rfl ?_
            rw [ha, hat]
            exact good_appendN hw hm hu hu2 h1 hcc.1 hcc.2.1 h2 hcc.2.2 (opd_ok he h4) (opd_ok he h5) ty h
          · cases h3
        · cases hc
      · cases hc
    case copy =>
      split at hc
      · rename_i s x t us ha ht
        have hat : argTypes = (t :: us).toArray := by apply Array.ext'; simpa using ht
        split at hc
        · rename_i et hu
          simp only [Option.bind_eq_some_iff] at hc
          obtain ⟨n, h1, h2⟩ := hc
          split at h2
          · simp only [Option.bind_eq_some_iff, Option.map_eq_some_iff] at h2
            obtain ⟨s', h4, x', h5, rfl⟩ := h2
            refine hrun rfl ?_
            rw [ha, hat]
            exact good_copy hw hu h1 (opd_ok he h4) (opd_ok he h5) ty h
          · cases h2
        · cases hc
      · cases hc
    case max =>
      simp only [Option.map_eq_some_iff] at hc
      obtain ⟨l, h1, rfl⟩ := hc
      obtain ⟨h2, h3⟩ := opds_ok he h1
      simp only [opD] at h
      cases l with
      | nil => cases h
      | cons x xs =>
        simp only [Option.map_eq_some_iff, Prod.mk.injEq] at h
        obtain ⟨y, h4, rfl, rfl⟩ := h
        refine hrun rfl ?_
        cases ha : args.toList with
        | nil => rw [ha] at h3; simp at h3
        | cons a as =>
          rw [ha] at h2 h3
          simp only [List.map_cons, PR] at h2
          obtain ⟨_, _, e1, h5, h6⟩ := h2
          cases e1
          obtain ⟨v', h7, h8⟩ := fold_max (P := P) (w := w) _ _ _ _ _ h5 h6 (by simp at h3 ⊢; omega) h4
          exact GoodV.pure hw h8 (by simpa [Go.Builtin.max_] using h7)
    case min =>
      simp only [Option.map_eq_some_iff] at hc
      obtain ⟨l, h1, rfl⟩ := hc
      obtain ⟨h2, h3⟩ := opds_ok he h1
      simp only [opD] at h
      cases l with
      | nil => cases h
      | cons x xs =>
        simp only [Option.map_eq_some_iff, Prod.mk.injEq] at h
        obtain ⟨y, h4, rfl, rfl⟩ := h
        refine hrun rfl ?_
        cases ha : args.toList with
        | nil => rw [ha] at h3; simp at h3
        | cons a as =>
          rw [ha] at h2 h3
          simp only [List.map_cons, PR] at h2
          obtain ⟨_, _, e1, h5, h6⟩ := h2
          cases e1
          obtain ⟨v', h7, h8⟩ := fold_min (P := P) (w := w) _ _ _ _ _ h5 h6 (by simp at h3 ⊢; omega) h4
          exact GoodV.pure hw h8 (by simpa [Go.Builtin.min_] using h7)
    case recover => cases hc; cases h
    all_goals cases hc

theorem opD_sound0 (hw : WR P g m w) (hm : g.rho slot = none) {e : Env} {tm : Array Value} (he : ER g e tm) {o : Go.Op} {po : POp} (hc : compOp0 P o = some po) {v : V} {ws : Ws} (h : opD po e m slot = some (v, ws))
    {oper : Go.Oper} (ho : oper.op = o) : Good P g m w slot v ws ((Go.execOp (evT tm) oper).run P w) := by
  subst ho
  unfold Go.execOp
  cases hop : oper.op <;> rw [hop] at hc <;> simp only [compOp0] at hc
  case move x =>
    simp only [Option.map_eq_some_iff] at hc
    obtain ⟨y, h1, rfl⟩ := hc
    simp only [opD, Option.some.injEq, Prod.mk.injEq] at h
    obtain ⟨rfl, rfl⟩ := h
    exact ⟨_, w, g.rho, .inl rfl, RhoE.refl _, fun _ _ => rfl, opd_ok he h1, hw, WB.refl w⟩
  case assign x =>
    simp only [Option.map_eq_some_iff] at hc
    obtain ⟨y, h1, rfl⟩ := hc
    simp only [opD, Option.some.injEq, Prod.mk.injEq] at h
    obtain ⟨rfl, rfl⟩ := h
    exact ⟨_, w, g.rho, .inl rfl, RhoE.refl _, fun _ _ => rfl, opd_ok he h1, hw, WB.refl w⟩
  case pick c a b =>
    simp only [Option.bind_eq_some_iff, Option.map_eq_some_iff] at hc
    obtain ⟨c', h1, a', h2, b', h3, rfl⟩ := hc
    have k1 := opd_ok he h1
    have k2 := opd_ok he h2
    have k3 := opd_ok he h3
    simp only [opD] at h
    split at h
    · rename_i t ht
      simp only [Option.some.injEq, Prod.mk.injEq] at h
      obtain ⟨rfl, rfl⟩ := h
      rw [ht] at k1
      simp only [VR] at k1
      refine ⟨if t then evT tm a else evT tm b, w, g.rho, .inl ?_, RhoE.refl _, fun _ _ => rfl, ?_, hw, WB.refl w⟩
      · simp [Go.asBool, k1]
      · cases t
        · exact k3
        · exact k2
    · cases h
  case alloc t =>
    simp only [Option.map_eq_some_iff] at hc
    obtain ⟨z, h1, rfl⟩ := hc
    simp only [opD, Option.some.injEq, Prod.mk.injEq] at h
    obtain ⟨rfl, rfl⟩ := h
    exact (good_alloc hw hm h1).good
  case box t x =>
    simp only [Option.map_eq_some_iff] at hc
    obtain ⟨y, h1, rfl⟩ := hc
    simp only [opD] at h
    split at h
    · rename_i hs
      simp only [Option.some.injEq, Prod.mk.injEq] at h
      obtain ⟨rfl, rfl⟩ := h
      exact (good_box hw hm (opd_ok he h1) hs).good
    · cases h
  case build t ps =>
    simp only [Option.bind_eq_some_iff] at hc
    obtain ⟨z, h1, h2⟩ := hc
    obtain ⟨l, hl, rfl⟩ : ∃ l, (match P.underlying t with
      | some (.struct fs) => if fs.toList.all (fun f => (sizeIn P f.type).isSome) then parts P fs ps.toList else none
      | some (.array _ e) => (sizeIn P e).bind fun n => partsA n ps.toList
      | _ => none) = some l ∧ po = .bd z l := by
      generalize P.underlying t = d at h2 ⊢
      split at h2
      · split at h2
        · rename_i hall
          simp only [Option.map_eq_some_iff] at h2
          obtain ⟨l, h3, rfl⟩ := h2
          exact ⟨l, by simp only [hall, if_true, h3], rfl⟩
        · cases h2
      · simp only [Option.bind_eq_some_iff, Option.map_eq_some_iff] at h2
        obtain ⟨n, h3, l, h4, rfl⟩ := h2
        exact ⟨l, by simp only [h3, Option.bind_some, h4], rfl⟩
      · cases h2
    simp only [opD, Option.map_eq_some_iff, Prod.mk.injEq] at h
    obtain ⟨cs, h5, rfl, rfl⟩ := h
    exact (good_build hw he h1 hl h5).good
  case buildSlice t len ps =>
    split at hc
    · rename_i et hu
      simp only [Option.bind_eq_some_iff] at hc
      obtain ⟨n, h1, z, h2, h3⟩ := hc
      split at h3
      · rename_i hcc
        simp only [Option.map_eq_some_iff] at h3
        obtain ⟨l, h4, rfl⟩ := h3
        exact (good_buildSlice hw hm he hu h1 h2 hcc.1 hcc.2.1 hcc.2.2 h4 h).good
      · cases h3
    · cases hc
  case load t a =>
    simp only [Option.bind_eq_some_iff, Option.map_eq_some_iff] at hc
    obtain ⟨ag, h1, n, h2, a', h3, rfl⟩ := hc
    exact (good_load hw h1 h2 (opd_ok he h3) h).good
  case store t a x =>
    simp only [Option.bind_eq_some_iff, Option.map_eq_some_iff] at hc
    obtain ⟨n, h1, a', h2, x', h3, rfl⟩ := hc
    obtain ⟨k1, k2⟩ := good_store hw h1 (opd_ok he h2) (opd_ok he h3) h
    exact k2.good k1
  case nilCheck x =>
    simp only [Option.map_eq_some_iff] at hc
    obtain ⟨y, h1, rfl⟩ := hc
    have k := opd_ok he h1
    simp only [opD] at h
    split at h
    · rename_i l off hy
      simp only [Option.some.injEq, Prod.mk.injEq] at h
      obtain ⟨rfl, rfl⟩ := h
      rw [hy] at k
      have k' := k
      simp only [VR] at k
      obtain ⟨b, n, k1, k2⟩ := k
      refine ⟨_, w, g.rho, .inl ?_, RhoE.refl _, fun _ _ => rfl, k', hw, WB.refl w⟩
      simp [k2]
    · rename_i cs hy
      simp only [Option.some.injEq, Prod.mk.injEq] at h
      obtain ⟨rfl, rfl⟩ := h
      rw [hy] at k
      have k' := k
      simp only [VR] at k
      obtain ⟨_, _, _, _, _, k2, _⟩ := k
      refine ⟨_, w, g.rho, .inl ?_, RhoE.refl _, fun _ _ => rfl, k', hw, WB.refl w⟩
      simp [k2]
    · rename_i f a c hy
      simp only [Option.some.injEq, Prod.mk.injEq] at h
      obtain ⟨rfl, rfl⟩ := h
      rw [hy] at k
      have k' := k
      simp only [VR] at k
      obtain ⟨f', a', c', k2, k3, _⟩ := k
      simp only [FR] at k3
      subst k3
      refine ⟨_, w, g.rho, .inl ?_, RhoE.refl _, fun _ _ => rfl, k', hw, WB.refl w⟩
      simp [k2]
    · rename_i f a c hy
      simp only [Option.some.injEq, Prod.mk.injEq] at h
      obtain ⟨rfl, rfl⟩ := h
      rw [hy] at k
      have k' := k
      simp only [VR] at k
      obtain ⟨f', a', c', k2, k3, _⟩ := k
      simp only [FR] at k3
      obtain ⟨b, n, _, k3⟩ := k3
      subst k3
      refine ⟨_, w, g.rho, .inl ?_, RhoE.refl _, fun _ _ => rfl, k', hw, WB.refl w⟩
      simp [k2]
    · cases h
  case binOp op t x y yt =>
    simp only [Option.bind_eq_some_iff] at hc
    obtain ⟨x', h1, y', h2, h3⟩ := hc
    split at h3
    · cases h3
      simp only [opD, Option.map_eq_some_iff, Prod.mk.injEq] at h
      obtain ⟨u, h4, rfl, rfl⟩ := h
      exact (good_bin hw (opd_ok he h1) (opd_ok he h2) x y h4).good
    · cases h3
      simp only [opD, Option.map_eq_some_iff, Prod.mk.injEq] at h
      obtain ⟨u, h4, rfl, rfl⟩ := h
      exact (good_bin hw (opd_ok he h1) (opd_ok he h2) x y h4).good
    · rename_i od d hni hns hu
      simp only [Option.bind_eq_some_iff] at h3
      obtain ⟨q, h4, h5⟩ := h3
      split at h5
      · cases h5
      · rename_i hgt
        have hgt' : P.eqGuardType P.depth t = false := by simpa using hgt
        have n1 : ∀ k, P.underlying t ≠ some (.int k) := by
          intro k e
          rw [hu] at e
          cases e
          exact hni k rfl
        have n2 : P.underlying t ≠ some .string := by
          intro e
          rw [hu] at e
          cases e
          exact hns rfl
        split at h5
        · cases h5
          exact (good_eq hw (neg := false) rfl h4 hgt' n1 n2 (opd_ok he h1) (opd_ok he h2) x y h).good
        · cases h5
          exact (good_eq hw (neg := true) rfl h4 hgt' n1 n2 (opd_ok he h1) (opd_ok he h2) x y h).good
        · cases h5
    · cases h3
  case unOp op t x =>
    simp only [Option.map_eq_some_iff] at hc
    obtain ⟨y, h1, rfl⟩ := hc
    simp only [opD, Option.map_eq_some_iff, Prod.mk.injEq] at h
    obtain ⟨u, h4, rfl, rfl⟩ := h
    exact (good_un hw (opd_ok he h1) h4).good
  case convert s d x =>
    simp only [Option.bind_eq_some_iff] at hc
    obtain ⟨x', h1, h2⟩ := hc
    have k := opd_ok he h1
    split at h2
    · rename_i ks kd hus hud
      cases h2
      simp only [opD] at h
      split at h
      · rename_i k' n hx
        simp only [Option.some.injEq, Prod.mk.injEq] at h
        obtain ⟨rfl, rfl⟩ := h
        rw [hx] at k
        simp only [VR] at k
        refine (GoodV.pure (v' := .int kd (kd.wrap n)) hw (by simp [VR]) ?_).good
        rw [k]
        simp [Go.convert, Go.run_underlying hus, Go.run_underlying hud, Go.Conv.intToInt]
      · cases h
    · rename_i et hus hud
      split at h2
      · rename_i hue
        cases h2
        exact (good_cbs hw hus hud hue k h).good
      · cases h2
    · rename_i et hus hud
      split at h2
      · rename_i hue
        cases h2
        exact (good_csb hw hm hus hud hue k h).good
      · cases h2
    · cases h2
  case makeInterface t x =>
    split at hc
    · cases hc
    · rename_i od d hni hu
      simp only [Option.map_eq_some_iff] at hc
      obtain ⟨y, h1, rfl⟩ := hc
      simp only [opD, Option.some.injEq, Prod.mk.injEq] at h
      obtain ⟨rfl, rfl⟩ := h
      refine (GoodV.pure (v' := .iface t (evT tm x)) hw (by simp only [VR]; exact ⟨_, rfl, opd_ok he h1⟩) ?_).good
      cases d <;> first | exact absurd rfl (hni _) | simp [Go.Instr.makeInterface, Go.run_underlying hu]
    · cases hc
  case makeFunc f a c =>
    split at hc
    · rename_i gg
      simp only [Option.bind_eq_some_iff, Option.map_eq_some_iff] at hc
      obtain ⟨a', h1, c', h2, rfl⟩ := hc
      simp only [opD, Option.some.injEq, Prod.mk.injEq] at h
      obtain ⟨rfl, rfl⟩ := h
      obtain ⟨k1, k2⟩ := opds_ok he h1
      obtain ⟨k3, k4⟩ := opds_ok he h2
      refine (GoodV.pure (v' := .func (.func gg) (a.map (evT tm)) (c.map (evT tm))) hw ?_ ?_).good
      · simp only [VR]
        exact ⟨_, _, _, rfl, rfl, by simp [k2], by simp [k4], by simpa using k1, by simpa using k3⟩
      · simp [Go.Instr.makeFunc]
    · cases hc
  case makeMap t r =>
    cases r with
    | some x => cases hc
    | none =>
      cases hc
      simp only [opD, Option.some.injEq, Prod.mk.injEq] at h
      obtain ⟨rfl, rfl⟩ := h
      exact (good_makeMap hw hm t).good
  case makeSlice t l c =>
    split at hc
    · rename_i et hu
      simp only [Option.bind_eq_some_iff] at hc
      obtain ⟨inf, h1, z, h2, h3⟩ := hc
      split at h3
      · rename_i hcc
        simp only [Option.bind_eq_some_iff, Option.map_eq_some_iff] at h3
        obtain ⟨l', h4, c', h5, rfl⟩ := h3
        exact (good_makeSlice hw hm hu h1 hcc.1 hcc.2.1 h2 hcc.2.2 (opd_ok he h4) (opd_ok he h5) h).good
      · cases h3
    · cases hc
  case slice t x lo hi mx =>
    simp only [Option.bind_eq_some_iff] at hc
    obtain ⟨x', h1, lo', h2, hi', h3, mx', h4, h5⟩ := hc
    split at h5
    · rename_i hu
      cases mx' with
      | some _ => cases h5
      | none =>
        cases h5
        rw [opdO_none h4]
        exact (good_ss hw he hu (opd_ok he h1) h2 h3 h).good
    · rename_i et hu
      simp only [Option.bind_eq_some_iff] at h5
      obtain ⟨n, h6, h7⟩ := h5
      split at h7
      · cases h7
        cases mx' with
        | none =>
          rw [opdO_none h4]
          exact (good_sv hw he hu h6 (opd_ok he h1) h2 h3 h).good
        | some q => exact (good_sv3 hw he hu h6 (opd_ok he h1) h2 h3 h4 h).good
      · cases h7
    · rename_i len et hu
      simp only [Option.bind_eq_some_iff] at h5
      obtain ⟨n, h6, h7⟩ := h5
      split at h7
      · rename_i hcc
        cases h7
        cases mx' with
        | some _ => simp at hcc
        | none =>
          rw [opdO_none h4]
          exact (good_sa hw he hu h6 (opd_ok he h1) h2 h3 h).good
      · cases h7
    · cases h5
  case fieldAddr t x f =>
    split at hc
    · rename_i fs hu
      simp only [Option.bind_eq_some_iff] at hc
      obtain ⟨fl, h1, n, h2, h3⟩ := hc
      split at h3
      · rename_i hcc
        simp only [Option.map_eq_some_iff] at h3
        obtain ⟨x', h4, rfl⟩ := h3
        exact (good_fieldAddr hw hu h1 h2 hcc (opd_ok he h4) h).good
      · cases h3
    · cases hc
  case field t x f =>
    split at hc
    · rename_i fs hu
      simp only [Option.bind_eq_some_iff, Option.map_eq_some_iff] at hc
      obtain ⟨fl, h1, ag, h2, n, h3, x', h4, rfl⟩ := hc
      exact (good_field hw hu h1 h2 h3 (opd_ok he h4) h).good
    · cases hc
  case indexAddr t x i =>
    simp only [Option.bind_eq_some_iff] at hc
    obtain ⟨x', h1, i', h2, h3⟩ := hc
    split at h3
    · rename_i et hu
      simp only [Option.bind_eq_some_iff] at h3
      obtain ⟨n, h4, h5⟩ := h3
      cases h5
      exact (good_ia hw hu h4 (opd_ok he h1) (opd_ok he h2) h).good
    · rename_i len et hu
      simp only [Option.bind_eq_some_iff] at h3
      obtain ⟨n, h4, h5⟩ := h3
      cases h5
      exact (good_iz hw hu h4 (opd_ok he h1) (opd_ok he h2) h).good
    · cases h3
  case index t x i =>
    simp only [Option.bind_eq_some_iff] at hc
    obtain ⟨x', h1, i', h2, h3⟩ := hc
    split at h3
    · rename_i len et hu
      simp only [Option.bind_eq_some_iff] at h3
      obtain ⟨ag, h4, n, h5, h6⟩ := h3
      cases h6
      exact (good_xa hw hu h4 h5 (opd_ok he h1) (opd_ok he h2) h).good
    · rename_i hu
      cases h3
      exact (good_xs hw hu (opd_ok he h1) (opd_ok he h2) h).good
    · cases h3
  case lookup t mm k ok =>
    simp only [Option.bind_eq_some_iff] at hc
    obtain ⟨m', h1, k', h2, h3⟩ := hc
    split at h3
    · rename_i kt et hu
      simp only [Option.bind_eq_some_iff, Option.map_eq_some_iff] at h3
      obtain ⟨q, h4, z, h5, rfl⟩ := h3
      exact (good_lookup hw hu h4 h5 (opd_ok he h1) (opd_ok he h2) h).good
    · cases h3
  case mapUpdate t mm k x =>
    simp only [Option.bind_eq_some_iff] at hc
    obtain ⟨m', h1, k', h2, x', h3, h4⟩ := hc
    split at h4
    · rename_i kt et hu
      simp only [Option.map_eq_some_iff] at h4
      obtain ⟨q, h5, rfl⟩ := h4
      obtain ⟨k1, k2⟩ := good_mapUpdate hw hu h5 (opd_ok he h1) (opd_ok he h2) (opd_ok he h3) h
      exact k2.good k1
    · cases h4
  case insert t mm k x =>
    simp only [Option.bind_eq_some_iff] at hc
    obtain ⟨m', h1, k', h2, x', h3, h4⟩ := hc
    split at h4
    · rename_i kt et hu
      simp only [Option.map_eq_some_iff] at h4
      obtain ⟨q, h5, rfl⟩ := h4
      obtain ⟨k1, k2⟩ := good_mapUpdate hw hu h5 (opd_ok he h1) (opd_ok he h2) (opd_ok he h3) h
      exact k2.good k1
    · cases h4
  case typeAssert x xt t ok =>
    split at hc
    · cases hc
    · rename_i od d hni hu
      simp only [Option.bind_eq_some_iff, Option.map_eq_some_iff] at hc
      obtain ⟨x', h1, z, h2, rfl⟩ := hc
      exact (good_ta hw ⟨d, hu, fun ms e => hni ms e⟩ h2 (opd_ok he h1) h).good
    · cases hc
  case extract x i =>
    simp only [Option.map_eq_some_iff] at hc
    obtain ⟨y, h1, rfl⟩ := hc
    exact (good_ex hw (opd_ok he h1) h).good
  case call c => exact opD_call hw hm he hc h _
  case panic x =>
    simp only [Option.map_eq_some_iff] at hc
    obtain ⟨y, h1, rfl⟩ := hc
    cases h
  case defer c =>
    split at hc
    · simp only [Option.bind_eq_some_iff, Option.map_eq_some_iff] at hc
      obtain ⟨_, _, _, _, rfl⟩ := hc
      cases h
    · cases hc
  all_goals cases hc

theorem opD_sound (hw : WR P g m w) (hm : g.rho slot = none) {e : Env} {tm : Array Value} (he : ER g e tm) {o : Go.Op} {po : POp} (hc : compOp P o = some po) {v : V} {ws : Ws} (h : opD po e m slot = some (v, ws))
    {oper : Go.Oper} (ho : oper.op = o) : Good P g m w slot v ws ((Go.execOp (evT tm) oper).run P w) := by
  unfold compOp at hc
  split at hc
  · rename_i p hp
    cases hc
    exact unsf_sound hw hm he hp h ho
  · exact opD_sound0 hw hm he hc h ho

end
end Pi


/- The machine's steps, for any frame: a function's, a deferred one's, a round's. -/
namespace Pi
open Go (IntKind TypeId FuncId Fn BinOp UnOp LoopState Value Addr World Program undef Operand Sem Result Frame Item step lone Steps step_lone_go stepG)

/-- What of a frame stays while it runs. -/
structure B where
  fn : FuncId
  kd : Go.CallKind
  ro : Option Nat

def B.at (b : B) (tm : Array Value) (df : List Go.Deferred) (td : List Item) : Frame := { fn := b.fn, tmps := tm, todo := td, defers := df, mode := .run, kind := b.kd, roundOf := b.ro }

section
variable {P : Program} {b : B} {tm : Array Value} {df : List Go.Deferred} {k : List Item} {cs : List Frame} {w : World}

theorem s_skip : step P (lone (b.at tm df (.code .skip :: k)) cs w) = .next (lone (b.at tm df k) cs w) := step_lone_go (by simp [stepG, stepG.exec, B.at])
theorem s_inBlock {id : Nat} : step P (lone (b.at tm df (.inBlock id :: k)) cs w) = .next (lone (b.at tm df k) cs w) := step_lone_go (by simp [stepG, stepG.exec, B.at])
theorem s_inScope {c : Go.Code} : step P (lone (b.at tm df (.inScope c :: k)) cs w) = .next (lone (b.at tm df k) cs w) := step_lone_go (by simp [stepG, stepG.exec, B.at])
theorem s_seq {x y : Go.Code} : step P (lone (b.at tm df (.code (.seq x y) :: k)) cs w) = .next (lone (b.at tm df (.code x :: .code y :: k)) cs w) := step_lone_go (by simp [stepG, stepG.exec, B.at])
theorem s_cond {c : Operand} {x y : Go.Code} {t : Bool} (h : evT tm c = .bool t) :
    step P (lone (b.at tm df (.code (.cond c x y) :: k)) cs w) = .next (lone (b.at tm df (.code (if t then x else y) :: k)) cs w) :=
  step_lone_go (by
    have h' : (b.at tm df (.code (.cond c x y) :: k)).eval c = .bool t := by rw [eval_evT]; exact h
    simp only [B.at] at h'
    simp [stepG, stepG.exec, B.at, h'])
theorem s_block {id : Nat} {c : Go.Code} : step P (lone (b.at tm df (.code (.block id c) :: k)) cs w) = .next (lone (b.at tm df (.code c :: .inBlock id :: k)) cs w) := step_lone_go (by simp [stepG, stepG.exec, B.at])
theorem s_loop {c : Go.Code} : step P (lone (b.at tm df (.code (.loop c) :: k)) cs w) = .next (lone (b.at tm df (.code c :: .inLoop c :: k)) cs w) := step_lone_go (by simp [stepG, stepG.exec, B.at])
theorem s_inLoop {c : Go.Code} : step P (lone (b.at tm df (.inLoop c :: k)) cs w) = .next (lone (b.at tm df (.code c :: .inLoop c :: k)) cs w) := step_lone_go (by simp [stepG, stepG.exec, B.at])
theorem s_scope {c : Go.Code} : step P (lone (b.at tm df (.code (.scope c) :: k)) cs w) = .next (lone (b.at tm df (.code c :: .inScope c :: k)) cs w) := step_lone_go (by simp [stepG, stepG.exec, B.at])
theorem s_exit {id : Nat} {k' : List Item} (h : Go.exitTo id k = some k') : step P (lone (b.at tm df (.code (.exit id) :: k)) cs w) = .next (lone (b.at tm df k') cs w) :=
  step_lone_go (by simp [stepG, stepG.exec, B.at, h])
theorem s_region {id : Nat} {ops : Array Go.Oper} : step P (lone (b.at tm df (.code (.region id ops false) :: k)) cs w) = .next (lone (b.at tm df (.inRegion ops (List.range ops.size) :: k)) cs w) :=
  step_lone_go (by simp [stepG, stepG.exec, B.at])
theorem s_region_draw {id : Nat} {ops : Array Go.Oper} :
    step P (lone (b.at tm df (.code (.region id ops true) :: k)) cs w) =
      .next (lone (b.at tm df (.inRegion ops (Go.Region.schedule (P.follows .mixedOrders) ops (w.tape w.drawn (.order b.fn id))) :: k)) cs { w with drawn := w.drawn + 1 }) :=
  step_lone_go (by simp [stepG, stepG.exec, B.at, Go.choose, Sem.run, Go.Question.forced, Go.Question.cut])
theorem s_region_end {ops : Array Go.Oper} : step P (lone (b.at tm df (.inRegion ops [] :: k)) cs w) = .next (lone (b.at tm df k) cs w) := step_lone_go (by simp [stepG, stepG.exec, B.at])

/-- A slot written. -/
def putT (tm : Array Value) (d : Option Nat) (v : Value) : Array Value :=
  match d with
  | some t => tm.setIfInBounds t v
  | none => tm

theorem finish_at {ops : Array Go.Oper} {i : Nat} {rest : List Nat} {o : Go.Oper} (ho : ops[i]? = some o) (v : Value) :
    (b.at tm df (.inRegion ops (i :: rest) :: k)).finish v = b.at (putT tm o.dst v) df (.inRegion ops rest :: k) := by
  cases h : o.dst <;> simp [Frame.finish, B.at, putT, ho, h]

theorem s_op_skip {ops : Array Go.Oper} {i : Nat} {rest : List Nat} {o : Go.Oper} (ho : ops[i]? = some o) (hw : Go.Region.wanted o (Go.yielded ops tm) = false) :
    step P (lone (b.at tm df (.inRegion ops (i :: rest) :: k)) cs w) = .next (lone (b.at (putT tm o.dst undef) df (.inRegion ops rest :: k)) cs w) := by
  rw [← finish_at ho]
  exact step_lone_go (by
    have hw' := hw
    simp only [B.at] at *
    simp [stepG, stepG.exec, ho, hw'])

/-- An operation that is not a deferral in a round: it is carried out. -/
theorem stepG_op' {ops : Array Go.Oper} {i : Nat} {rest : List Nat} {o : Go.Oper} (ho : ops[i]? = some o) (hw : Go.Region.wanted o (Go.yielded ops tm) = true) (hd : b.ro = none ∨ ∀ c, o.op ≠ .defer c) :
    stepG P true { frame := b.at tm df (.inRegion ops (i :: rest) :: k), callers := cs, status := .running, dying := none } w =
      stepG.apply P true (b.at tm df (.inRegion ops (i :: rest) :: k)) cs none (Go.execOp (evT tm) o) w := by
  rcases hd with hd | hd
  · simp [stepG, stepG.exec, stepG.oper, Frame.oper?, B.at, ho, hw, eval_evT, hd]
  · cases hop : o.op <;> first | exact absurd hop (hd _) | (cases hro : b.ro <;> simp [stepG, stepG.exec, stepG.oper, Frame.oper?, B.at, ho, hw, eval_evT, hop, hro])

theorem s_op {ops : Array Go.Oper} {i : Nat} {rest : List Nat} {o : Go.Oper} (ho : ops[i]? = some o) (hw : Go.Region.wanted o (Go.yielded ops tm) = true) (hd : b.ro = none ∨ ∀ c, o.op ≠ .defer c)
    {v : Value} {w' : World} (hr : (Go.execOp (evT tm) o).run P w = .ok (.value v) w' ∨ ((Go.execOp (evT tm) o).run P w = .ok .skip w' ∧ v = undef)) :
    step P (lone (b.at tm df (.inRegion ops (i :: rest) :: k)) cs w) = .next (lone (b.at (putT tm o.dst v) df (.inRegion ops rest :: k)) cs w') := by
  rw [← finish_at ho]
  refine step_lone_go ?_
  rw [stepG_op' ho hw hd]
  rcases hr with hr | ⟨hr, rfl⟩ <;> simp [stepG.apply, hr]

theorem s_op_enter {ops : Array Go.Oper} {i : Nat} {rest : List Nat} {o : Go.Oper} (ho : ops[i]? = some o) (hw : Go.Region.wanted o (Go.yielded ops tm) = true) (hd : b.ro = none ∨ ∀ c, o.op ≠ .defer c)
    {f : FuncId} {args : Array Value} {w' : World} (hr : (Go.execOp (evT tm) o).run P w = .ok (.enter f args) w') :
    step P (lone (b.at tm df (.inRegion ops (i :: rest) :: k)) cs w) = .next (lone (Frame.enter P f args .normal) (b.at tm df (.inRegion ops (i :: rest) :: k) :: cs) w') := by
  refine step_lone_go ?_
  rw [stepG_op' ho hw hd]
  simp [stepG.apply, hr, B.at]

theorem s_op_round {ops : Array Go.Oper} {i : Nat} {rest : List Nat} {o : Go.Oper} (ho : ops[i]? = some o) (hw : Go.Region.wanted o (Go.yielded ops tm) = true) (hd : b.ro = none ∨ ∀ c, o.op ≠ .defer c)
    {l : Nat} {f : FuncId} {ts : Array Value} {as bd : Go.Code} {w' : World} (hr : (Go.execOp (evT tm) o).run P w = .ok (.round l f ts as bd) w') :
    step P (lone (b.at tm df (.inRegion ops (i :: rest) :: k)) cs w) = .next (lone (Frame.round l f ts as bd .normal) (b.at tm df (.inRegion ops (i :: rest) :: k) :: cs) w') := by
  refine step_lone_go ?_
  rw [stepG_op' ho hw hd]
  simp [stepG.apply, hr, B.at]

theorem s_op_defer {ops : Array Go.Oper} {i : Nat} {rest : List Nat} {o : Go.Oper} (ho : ops[i]? = some o) (hw : Go.Region.wanted o (Go.yielded ops tm) = true) (hd : b.ro = none)
    {d : Go.Deferred} {w' : World} (hr : (Go.execOp (evT tm) o).run P w = .ok (.defer d) w') :
    step P (lone (b.at tm df (.inRegion ops (i :: rest) :: k)) cs w) = .next (lone (b.at (putT tm o.dst undef) (d :: df) (.inRegion ops rest :: k)) cs w') := by
  rw [← finish_at (b := b) (df := d :: df) ho]
  refine step_lone_go ?_
  rw [stepG_op' ho hw (.inl hd)]
  simp [stepG.apply, hr, B.at]

theorem s_op_panic {ops : Array Go.Oper} {i : Nat} {rest : List Nat} {o : Go.Oper} (ho : ops[i]? = some o) (hw : Go.Region.wanted o (Go.yielded ops tm) = true) (hd : b.ro = none ∨ ∀ c, o.op ≠ .defer c)
    {v : Value} {w' : World} (hr : (Go.execOp (evT tm) o).run P w = .halt (.panic v) w') :
    step P (lone (b.at tm df (.inRegion ops (i :: rest) :: k)) cs w) = .next (lone { b.at tm df (.inRegion ops (i :: rest) :: k) with mode := .panicking [{ v, recovered := false }] } cs w') := by
  refine step_lone_go ?_
  rw [stepG_op' ho hw hd]
  simp [stepG.apply, hr, B.at, Frame.raise]

/-! ### endings -/
theorem s_ret {k : List Item} (h : b.ro = none) : step P (lone (b.at tm df (.code .ret :: k)) cs w) = .next (lone { b.at tm df (.code .ret :: k) with mode := .returning } cs w) :=
  step_lone_go (by simp [stepG, stepG.exec, B.at, h])
theorem s_end (h : b.ro = none) : step P (lone (b.at tm df []) cs w) = .next (lone { b.at tm df [] with mode := .returning } cs w) :=
  step_lone_go (by simp [stepG, stepG.exec, B.at, h])

/-! ### a range over a function -/
theorem s_rangeFunc {f : Operand} {ps : Array Nat} {as bd : Go.Code} {l : Nat} {mk : List Go.Deferred} {w1 w2 : World} {g : FuncId} {args : Array Value}
    (hl : (Go.Instr.enterLoop b.fn tm ps as bd b.ro).run P w = .ok (l, mk) w1)
    (hc : (do let d ← Go.Deferred.ofValue (evT tm f) #[.func (.yield l) #[] #[]]; Go.invoke d.target d.args : Sem Go.Next).run P w1 = .ok (.enter g args) w2) :
    step P (lone (b.at tm df (.code (.rangeFunc f ps as bd) :: k)) cs w) = .next (lone (Frame.enter P g args .normal) (b.at tm (mk ++ df) (.inRangeFunc l :: k) :: cs) w2) :=
  step_lone_go (by
    have hc' := hc
    simp only [Sem.run_bind] at hc'
    have e1 : evT tm (.const (.func (.yield l) #[] #[])) = .func (.yield l) #[] #[] := rfl
    simp [stepG, stepG.exec, B.at, hl, stepG.apply, eval_evT, Go.resolve, e1, hc', Go.Sem.runT_eq])
theorem s_rangeFunc' {f : Operand} {ps : Array Nat} {as bd : Go.Code} {l : Nat} {mk : List Go.Deferred} {w1 w2 : World} {l' : Nat} {g : FuncId} {ts : Array Value} {as' bd' : Go.Code}
    (hl : (Go.Instr.enterLoop b.fn tm ps as bd b.ro).run P w = .ok (l, mk) w1)
    (hc : (do let d ← Go.Deferred.ofValue (evT tm f) #[.func (.yield l) #[] #[]]; Go.invoke d.target d.args : Sem Go.Next).run P w1 = .ok (.round l' g ts as' bd') w2) :
    step P (lone (b.at tm df (.code (.rangeFunc f ps as bd) :: k)) cs w) = .next (lone (Frame.round l' g ts as' bd' .normal) (b.at tm (mk ++ df) (.inRangeFunc l :: k) :: cs) w2) :=
  step_lone_go (by
    have hc' := hc
    simp only [Sem.run_bind] at hc'
    have e1 : evT tm (.const (.func (.yield l) #[] #[])) = .func (.yield l) #[] #[] := rfl
    simp [stepG, stepG.exec, B.at, hl, stepG.apply, eval_evT, Go.resolve, e1, hc', Go.Sem.runT_eq])

theorem s_endRangeFunc {l : Nat} {j : Option Go.Code} {w1 : World} (h : (Go.Instr.endLoop l).run P w = .ok j w1) :
    step P (lone (b.at tm df (.endRangeFunc l :: k)) cs w) = .next (lone (b.at tm df ((j.map Item.code).toList ++ k)) cs w1) :=
  step_lone_go (by simp [stepG, stepG.exec, B.at, h, Go.Sem.runT_eq])

theorem s_beginRound {l : Nat} (hb : b.ro = some l) {w1 : World} (h : (Go.Instr.beginRound l).run P w = .ok () w1) :
    step P (lone (b.at tm df (.beginRound :: k)) cs w) = .next (lone (b.at tm df k) cs w1) :=
  step_lone_go (by simp [stepG, stepG.exec, B.at, hb, stepG.apply, h, Frame.finish])

/-! ### a round's end -/
theorem s_endRound_nor {l : Nat} (hb : b.ro = some l) (hk : b.kd = .normal) {v : Value} {w1 : World} (h : (Go.Instr.endRound l none).run P w = .ok v w1) (c : Frame) :
    step P (lone (b.at tm df []) (c :: cs) w) = .next (lone (c.finish v) cs w1) :=
  step_lone_go (by simp [stepG, stepG.exec, B.at, hb, hk, h, Go.doReturn, Go.Sem.runT_eq])
theorem s_endRound_ret {l : Nat} (hb : b.ro = some l) (hk : b.kd = .normal) {v : Value} {w1 : World} (h : (Go.Instr.endRound l (some .ret)).run P w = .ok v w1) (c : Frame) :
    step P (lone (b.at tm df (.code .ret :: k)) (c :: cs) w) = .next (lone (c.finish v) cs w1) :=
  step_lone_go (by simp [stepG, stepG.exec, B.at, hb, hk, h, Go.doReturn, Go.Sem.runT_eq])
theorem s_endRound_exit {l id : Nat} (hb : b.ro = some l) (hk : b.kd = .normal) (he : Go.exitTo id k = none) {v : Value} {w1 : World} (h : (Go.Instr.endRound l (some (.exit id))).run P w = .ok v w1) (c : Frame) :
    step P (lone (b.at tm df (.code (.exit id) :: k)) (c :: cs) w) = .next (lone (c.finish v) cs w1) :=
  step_lone_go (by simp [stepG, stepG.exec, B.at, hb, hk, h, he, Go.doReturn, Go.Sem.runT_eq])

/-! ### a frame that is left -/
theorem s_mark {fr : Frame} (hm : fr.mode ≠ .run) {r : Nat} {ds : List Go.Deferred} {as : Array Value} (hd : fr.defers = { target := .collected r, args := as } :: ds) {w1 : World} (h : (Go.Instr.takeDeferred r).run P w = .ok [] w1) :
    step P (lone fr cs w) = .next (lone { fr with defers := ds } cs w1) := by
  refine step_lone_go ?_
  obtain ⟨fn, tm, td, df, md, kd, ro⟩ := fr
  simp only at hm hd
  subst hd
  cases md <;> first | exact absurd rfl hm | simp [stepG, Go.unwind, h, Go.Sem.runT_eq]

theorem s_deferred {fr : Frame} (hm : fr.mode ≠ .run) {f : FuncId} {cap : Array Value} {ds : List Go.Deferred} {as : Array Value} (hd : fr.defers = { target := .fn (.func f) cap, args := as } :: ds)
    {args : Array Value} {w1 : World} (h : (Go.invoke (.fn (.func f) cap) as).run P w = .ok (.enter f args) w1) :
    step P (lone fr cs w) = .next (lone (Frame.enter P f args .deferred) ({ fr with defers := ds } :: cs) w1) := by
  refine step_lone_go ?_
  obtain ⟨fn, tm, td, df, md, kd, ro⟩ := fr
  simp only at hm hd
  subst hd
  cases md <;> first | exact absurd rfl hm | simp [stepG, Go.unwind, Go.callDeferred, h, Go.Sem.runT_eq]

theorem s_return {fr : Frame} (hm : fr.mode = .returning) (hd : fr.defers = []) (hk : fr.kind = .normal) {fn : Go.Func} (hf : P.funcs[fr.fn]? = some fn) {v : Value} (hr : (Go.results fn fr.tmps).run P w = .ok v w) (c : Frame) :
    step P (lone fr (c :: cs) w) = .next (lone (c.finish v) cs w) := by
  refine step_lone_go ?_
  simp [stepG, Go.unwind, hm, hd, hf, hr, Go.doReturn, hk, Go.Sem.runT_eq]

theorem s_return_deferred {fr : Frame} (hm : fr.mode = .returning) (hd : fr.defers = []) (hk : fr.kind = .deferred) {fn : Go.Func} (hf : P.funcs[fr.fn]? = some fn) {v : Value} (hr : (Go.results fn fr.tmps).run P w = .ok v w) (c : Frame) :
    step P (lone fr (c :: cs) w) = .next (lone (match c.mode with
        | .panicking ({ recovered := true, .. } :: older) =>
          match older.dropWhile (!·.goexit) with
          | [] => { c with mode := .returning }
          | rest => { c with mode := .panicking rest }
        | _ => c) cs w) := by
  refine step_lone_go ?_
  simp [stepG, Go.unwind, hm, hd, hf, hr, Go.doReturn, hk, Go.Sem.runT_eq]
  rfl

theorem s_raise {fr : Frame} {chain : List Go.PanicEntry} (hm : fr.mode = .panicking chain) (hd : fr.defers = []) {fn : Go.Func} (hf : P.funcs[fr.fn]? = some fn) (c : Frame) :
    step P (lone fr (c :: cs) w) = .next (lone (c.raise chain) cs w) := by
  refine step_lone_go ?_
  simp [stepG, Go.unwind, hm, hd, Frame.catches, hf]

theorem s_recover {ops : Array Go.Oper} {i : Nat} {rest : List Nat} {o : Go.Oper} (ho : ops[i]? = some o) (hw : Go.Region.wanted o (Go.yielded ops tm) = true) (hd : ∀ c, o.op ≠ .defer c) (hro : b.ro = none)
    {w' : World} (hr : (Go.execOp (evT tm) o).run P w = .ok .recover w') :
    step P (lone (b.at tm df (.inRegion ops (i :: rest) :: k)) cs w) =
      (match Go.tryRecover (b.at tm df (.inRegion ops (i :: rest) :: k)) cs with
        | some (v, cs') => .next (lone (b.at (putT tm o.dst v) df (.inRegion ops rest :: k)) cs' w')
        | none => .next (lone (b.at (putT tm o.dst .nilIface) df (.inRegion ops rest :: k)) cs w')) := by
  cases hrec : Go.tryRecover (b.at tm df (.inRegion ops (i :: rest) :: k)) cs with
  | none =>
    simp only
    rw [← finish_at ho]
    refine step_lone_go ?_
    rw [stepG_op' ho hw (.inr hd)]
    have hro' : (b.at tm df (.inRegion ops (i :: rest) :: k)).roundOf = none := hro
    simp [stepG.apply, hr, hro', hrec]
  | some p =>
    obtain ⟨v, cs'⟩ := p
    simp only
    rw [← finish_at ho]
    refine step_lone_go ?_
    rw [stepG_op' ho hw (.inr hd)]
    have hro' : (b.at tm df (.inRegion ops (i :: rest) :: k)).roundOf = none := hro
    simp [stepG.apply, hr, hro', hrec]

end
end Pi


/- The run of code: what is claimed of it. -/
namespace Pi
open Go (IntKind TypeId FuncId Fn BinOp UnOp LoopState Value Addr World Program undef Operand Sem Result Frame Item step lone Steps step_lone_go stepG)

/-- What is known grows. -/
structure GE (g g' : G) : Prop where
  rho : RhoE g.rho g'.rho
  ro : RoE g.ro g'.ro
  keep : RoE g.keep g'.keep
  new : ∀ b o, g'.ro b = some o → g.ro b = some o ∨ g.keep b = none

theorem GE.refl (g : G) : GE g g := ⟨RhoE.refl _, RoE.refl _, RoE.refl _, fun _ _ h => .inl h⟩
theorem GE.trans {a b c : G} (h : GE a b) (k : GE b c) : GE a c := by
  refine ⟨h.rho.trans k.rho, h.ro.trans k.ro, h.keep.trans k.keep, fun bl o e => ?_⟩
  rcases k.new bl o e with h1 | h1
  · exact h.new bl o h1
  · right
    cases hk : a.keep bl with
    | none => rfl
    | some q => rw [h.keep _ _ hk] at h1; cases h1
theorem GE.ofRho {g : G} {h : Rho} (e : RhoE g.rho h) : GE g { g with rho := h } := ⟨e, RoE.refl _, RoE.refl _, fun _ _ h => .inl h⟩

theorem VR.up {g g' : G} (h : GE g g') {x : V} {v : Value} (r : VR g.ro x g.rho v) : VR g'.ro x g'.rho v := VR.mono h.ro x h.rho r
theorem PR.up {g g' : G} (h : GE g g') {x : List V} {v : List Value} (r : PR g.ro x g.rho v) : PR g'.ro x g'.rho v := PR.mono h.ro x h.rho r
theorem ER.up {g g' : G} (h : GE g g') {e : Env} {tm : Array Value} (r : ER g e tm) : ER g' e tm := r.mono h.rho h.ro

def DR (g : G) : D → Go.Deferred → Prop
  | .mark l, d => ∃ r n, g.rho l = some (r, n) ∧ d = { target := .collected r, args := #[] }
  | .call f args, d => ∃ fn a c cap as, f = .fn (.func fn) a c ∧ d = { target := .fn (.func fn) cap, args := as } ∧
      c.length = cap.size ∧ PR g.ro c g.rho cap.toList ∧ (a ++ args).length = as.size ∧ PR g.ro (a ++ args) g.rho as.toList

def DL (g : G) : List D → List Go.Deferred → Prop
  | [], [] => True
  | d :: ds, e :: es => DR g d e ∧ DL g ds es
  | _, _ => False

theorem DR.up {g g' : G} (h : GE g g') {d : D} {e : Go.Deferred} (r : DR g d e) : DR g' d e := by
  cases d with
  | mark l => obtain ⟨a, n, h1, h2⟩ := r; exact ⟨a, n, h.rho _ _ h1, h2⟩
  | call f args => obtain ⟨fn, a, c, cap, as, h1, h2, h3, h4, h5, h6⟩ := r; exact ⟨fn, a, c, cap, as, h1, h2, h3, h4.up h, h5, h6.up h⟩
theorem DL.up {g g' : G} (h : GE g g') : ∀ {d : List D} {e : List Go.Deferred}, DL g d e → DL g' d e
  | [], [], _ => trivial
  | _ :: _, _ :: _, r => ⟨r.1.up h, DL.up h r.2⟩
  | [], _ :: _, r => r.elim
  | _ :: _, [], r => r.elim

/-- What 'recover' would tell, and who it asks. -/
def RecOK (g : G) (b : B) (rv : Option V) (cs : List Frame) : Prop :=
  ∀ v, rv = some v → b.kd = .deferred ∧ b.ro = none ∧ ∃ c rest, cs = c :: rest ∧
    ((∃ v', c.mode = .panicking [{ v := v', recovered := false }] ∧ VR g.ro v g.rho v') ∨ (v = .ni ∧ c.mode = .returning))

theorem RecOK.up {g g' : G} (h : GE g g') {b : B} {rv : Option V} {cs : List Frame} (r : RecOK g b rv cs) : RecOK g' b rv cs := by
  intro v hv
  obtain ⟨h1, h2, c, rest, h3, h4⟩ := r v hv
  refine ⟨h1, h2, c, rest, h3, ?_⟩
  rcases h4 with ⟨v', h5, h6⟩ | h4
  · exact .inl ⟨v', h5, h6.up h⟩
  · exact .inr h4

/-- The callers, where the first one's panic has been recovered. -/
def recovered : List Frame → List Frame
  | c :: rest => (match c.mode with
    | .panicking (e :: o) => { c with mode := .panicking ({ e with recovered := true } :: o) }
    | _ => c) :: rest
  | [] => []

def CSR (rv : Option V) (cs : List Frame) (rv' : Option V) (cs' : List Frame) : Prop :=
  (rv' = rv ∧ cs' = cs) ∨ (∃ v, rv = some v ∧ rv' = none ∧ cs' = recovered cs)

theorem CSR.refl (rv : Option V) (cs : List Frame) : CSR rv cs rv cs := .inl ⟨rfl, rfl⟩
theorem CSR.trans {a b c : Option V} {x y z : List Frame} (h : CSR a x b y) (k : CSR b y c z) : CSR a x c z := by
  rcases h with ⟨rfl, rfl⟩ | ⟨v, h1, rfl, rfl⟩
  · exact k
  · rcases k with ⟨rfl, rfl⟩ | ⟨v', h2, _, _⟩
    · exact .inr ⟨v, h1, rfl, rfl⟩
    · cases h2

/-- In which round a frame is. -/
def RdOK (g : G) (b : B) : Option Nat → Prop
  | none => b.ro = none
  | some l => ∃ bl n, g.rho l = some (bl, n) ∧ b.ro = some bl

theorem RdOK.up {g g' : G} (h : GE g g') {b : B} {rd : Option Nat} (r : RdOK g b rd) : RdOK g' b rd := by
  cases rd with
  | none => exact r
  | some l => obtain ⟨bl, n, h1, h2⟩ := r; exact ⟨bl, n, h.rho _ _ h1, h2⟩

/-- A pure state and a frame's. -/
structure SR (P : Program) (N : Nat) (g : G) (b : B) (s : S) (tm : Array Value) (df : List Go.Deferred) (cs : List Frame) (w : World) : Prop where
  er : ER g s.e tm
  size : N ≤ tm.size
  dl : DL g s.ds df
  wr : WR P g s.m w
  fresh : ∀ l, s.x ≤ l → g.rho l = none
  rc : RecOK g b s.rv cs
  rd : RdOK g b s.rd
  fn : ∃ fn, P.funcs[b.fn]? = some fn

/-- From a state to a later one. -/
structure To (P : Program) (N : Nat) (b : B) (g : G) (s : S) (cs : List Frame) (w : World) (g' : G) (s' : S) (tm' : Array Value) (df' : List Go.Deferred) (cs' : List Frame) (w' : World) : Prop where
  ge : GE g g'
  sr : SR P N g' b s' tm' df' cs' w'
  wb : WB w w'
  cr : CSR s.rv cs s'.rv cs'
  rd : s'.rd = s.rd

theorem To.trans {P : Program} {N : Nat} {b : B} {g g1 g2 : G} {s s1 s2 : S} {cs cs1 cs2 : List Frame} {w w1 w2 : World} {tm1 tm2 : Array Value} {df1 df2 : List Go.Deferred}
    (h : To P N b g s cs w g1 s1 tm1 df1 cs1 w1) (k : To P N b g1 s1 cs1 w1 g2 s2 tm2 df2 cs2 w2) : To P N b g s cs w g2 s2 tm2 df2 cs2 w2 :=
  ⟨h.ge.trans k.ge, k.sr, h.wb.trans k.wb, h.cr.trans k.cr, k.rd.trans h.rd⟩

/-- Where the machine stands, by how code ends. -/
def Lands (P : Program) (g : G) (b : B) (k : List Item) (m : Go.Machine) : X → Array Value → List Go.Deferred → List Frame → World → Prop
  | .nor, tm, df, cs, w => Steps P m (lone (b.at tm df k) cs w)
  | .exit id, tm, df, cs, w => ∃ k2, Go.exitTo id k2 = Go.exitTo id k ∧ Steps P m (lone (b.at tm df (.code (.exit id) :: k2)) cs w)
  | .ret, tm, df, cs, w => ∃ k2, Steps P m (lone (b.at tm df (.code .ret :: k2)) cs w)
  | .pan v, tm, df, cs, w => ∃ v' k2, VR g.ro v g.rho v' ∧ Steps P m (lone { b.at tm df k2 with mode := .panicking [{ v := v', recovered := false }] } cs w)

theorem Lands.steps {P : Program} {g : G} {b : B} {k : List Item} {m m' : Go.Machine} (h : Steps P m m') {x : X} {tm : Array Value} {df : List Go.Deferred} {cs : List Frame} {w : World} (l : Lands P g b k m' x tm df cs w) : Lands P g b k m x tm df cs w := by
  cases x with
  | nor => exact h.trans l
  | exit id => obtain ⟨k2, h1, h2⟩ := l; exact ⟨k2, h1, h.trans h2⟩
  | ret => obtain ⟨k2, h2⟩ := l; exact ⟨k2, h.trans h2⟩
  | pan v => obtain ⟨v', k2, h1, h2⟩ := l; exact ⟨v', k2, h1, h.trans h2⟩

/-- An item more ahead of what stands. -/
theorem Lands.pass {P : Program} {g : G} {b : B} {k : List Item} {i : Item} {m : Go.Machine} (hi : ∀ id, i ≠ .inBlock id) {x : X} (hx : x ≠ .nor) {tm : Array Value} {df : List Go.Deferred} {cs : List Frame} {w : World} (l : Lands P g b (i :: k) m x tm df cs w) : Lands P g b k m x tm df cs w := by
  cases x with
  | nor => exact absurd rfl hx
  | exit id =>
    obtain ⟨k2, h1, h2⟩ := l
    refine ⟨k2, h1.trans ?_, h2⟩
    cases i <;> first | rfl | exact absurd rfl (hi _)
  | ret => exact l
  | pan v => exact l

def frameOf (P : Program) : Go.Next → Frame
  | .enter f args => Frame.enter P f args .normal
  | .round l f tm as bd => Frame.round l f tm as bd .normal
  | _ => default

def isFrame : Go.Next → Prop
  | .enter _ _ => True
  | .round _ _ _ _ _ => True
  | _ => False

/-- How a call is left: a value or a panic is handed to the caller. -/
def Handed (P : Program) (g : G) (m : Go.Machine) (fr : Frame) (cs : List Frame) (w : World) : CR → Prop
  | .ret v => ∃ v', VR g.ro v g.rho v' ∧ Steps P m (lone (fr.finish v') cs w)
  | .pan v => ∃ v', VR g.ro v g.rho v' ∧ Steps P m (lone (fr.raise [{ v := v', recovered := false }]) cs w)

def callM (f : Value) (args : Array Value) : Sem Go.Next := do let d ← Go.Deferred.ofValue f args; Go.invoke d.target d.args

/-- A function whose contract is proved by hand. -/
def PrimOK (P : Program) (f : Nat) (h : List V → Sto → Nat → Option (V × Ws)) : Prop :=
  (∃ fn, P.funcs[f]? = some fn ∧ fn.name ≠ "runtime.NumGoroutine" ∧ fn.body.isSome) ∧
  (∀ {as m x v ws}, h as m x = some (v, ws) → (∀ m', (∀ l ∈ as.flatMap refOf, m' l = m l) → h as m' x = some (v, ws)) ∧ (∀ p ∈ ws, p.1 = x ∨ p.1 ∈ as.flatMap refOf)) ∧
  ∀ {as m x v ws g w} {args : Array Value}, h as m x = some (v, ws) → PR g.ro as g.rho args.toList → as.length = args.size → WR P g m w → g.rho x = none → m x = none →
    ∀ fr cs, ∃ v' w' g', GE g g' ∧ (∀ l, l ≠ x → g'.rho l = g.rho l) ∧ VR g'.ro v g'.rho v' ∧ WR P g' (m.app ws) w' ∧ WB w w' ∧
      Steps P (lone (Frame.enter P f args .normal) (fr :: cs) w) (lone (fr.finish v') cs w')

structure Lnk (P : Program) (C : Ctx) : Prop where
  fns : ∀ f F, C.fns f = some F → ∃ fn, P.funcs[f]? = some fn ∧ compF P fn = some F ∧ fn.name ≠ "runtime.NumGoroutine"
  prim : ∀ f h, C.prim f = some h → PrimOK P f h
  mixed : P.follows .mixedOrders = true

def ExecS (P : Program) (C : Ctx) (n : Nat) : Prop :=
  ∀ {N : Nat} {c : Go.Code} {pc : PCode} {s s' : S} {x : X}, comp P N c = some pc → exec C n pc s = some (x, s') →
    ∀ {b : B} {tm : Array Value} {df : List Go.Deferred} {cs : List Frame} {w : World} {g : G} (k : List Item), SR P N g b s tm df cs w →
      ∃ g' tm' df' cs' w', To P N b g s cs w g' s' tm' df' cs' w' ∧ Lands P g' b k (lone (b.at tm df (.code c :: k)) cs w) x tm' df' cs' w'

/-- What compiles to what, by places. -/
def OpsR (P : Program) (N : Nat) (ops : Array Go.Oper) : List Nat → List POper → Prop
  | [], [] => True
  | i :: is, p :: ps => (∃ o, ops[i]? = some o ∧ compOper P N ops o = some p) ∧ OpsR P N ops is ps
  | _, _ => False

def OpsS (P : Program) (C : Ctx) (n : Nat) : Prop :=
  ∀ {N : Nat} {ops : Array Go.Oper} {is : List Nat} {ps : List POper} {s s' : S} {x : X}, OpsR P N ops is ps → runOps C n ps s = some (x, s') →
    ∀ {b : B} {tm : Array Value} {df : List Go.Deferred} {cs : List Frame} {w : World} {g : G} (rest : List Nat) (k : List Item), SR P N g b s tm df cs w →
      ∃ g' tm' df' cs' w', To P N b g s cs w g' s' tm' df' cs' w' ∧ Lands P g' b (.inRegion ops rest :: k) (lone (b.at tm df (.inRegion ops (is ++ rest) :: k)) cs w) x tm' df' cs' w' ∧ (∀ id, x ≠ .exit id) ∧ x ≠ .ret

/-- A piece of open order, in any order that its edges allow. -/
def AnyS (P : Program) (C : Ctx) (n : Nat) : Prop :=
  ∀ {N : Nat} {ops : Array Go.Oper} {lo : Nat} {ps : List POper} {prs : List (Nat × Nat)} {s s' : S} {x : X} {ts : List Tch} (sch : List Nat),
    pairsOf ps (Go.Region.before ops) lo = some prs → OpsR P N ops (List.range' lo ps.length) ps → runAny C n ps s [] = some (x, s', ts) → (x = .nor → apartAll ts prs = true) →
    sch.Perm (List.range' lo ps.length) → sch.Pairwise (fun i j => ((Go.Region.before ops).getD i 0).testBit j = false) →
    ∀ {b : B} {tm : Array Value} {df : List Go.Deferred} {cs : List Frame} {w : World} {g : G} (rest : List Nat) (k : List Item), SR P N g b s tm df cs w →
      ∃ g' tm' df' cs' w', To P N b g s cs w g' s' tm' df' cs' w' ∧ Lands P g' b (.inRegion ops rest :: k) (lone (b.at tm df (.inRegion ops (sch ++ rest) :: k)) cs w) x tm' df' cs' w' ∧ (∀ id, x ≠ .exit id) ∧ x ≠ .ret

def SegsS (P : Program) (C : Ctx) (n : Nat) : Prop :=
  ∀ {N : Nat} {id : Nat} {ops : Array Go.Oper} {draw : Bool} {segs : List Seg} {s s' : S} {x : X}, comp P N (.region id ops draw) = some (.reg segs) → runSegs C n segs s = some (x, s') →
    ∀ {b : B} {tm : Array Value} {df : List Go.Deferred} {cs : List Frame} {w : World} {g : G} (k : List Item), SR P N g b s tm df cs w →
      ∃ g' tm' df' cs' w', To P N b g s cs w g' s' tm' df' cs' w' ∧ Lands P g' b k (lone (b.at tm df (.code (.region id ops draw) :: k)) cs w) x tm' df' cs' w'

def CallS (P : Program) (C : Ctx) (n : Nat) : Prop :=
  ∀ {f : V} {args : List V} {m m' : Sto} {x x' : Nat} {cr : CR}, callV C n f args m x = some (cr, m', x') →
    ∀ {g : G} {w : World} {f' : Value} {args' : Array Value}, VR g.ro f g.rho f' → PR g.ro args g.rho args'.toList → args.length = args'.size → WR P g m w → (∀ l, x ≤ l → g.rho l = none) →
      ∃ nx, (callM f' args').run P w = .ok nx w ∧ isFrame nx ∧ ∀ fr cs, ∃ g' w', GE g g' ∧ WR P g' m' w' ∧ (∀ l, x' ≤ l → g'.rho l = none) ∧ WB w w' ∧
        Handed P g' (lone (frameOf P nx) (fr :: cs) w) fr cs w' cr

/-- A frame that is left. -/
def Left (P : Program) (g : G) (fr : Frame) (w : World) : CR → Prop
  | .ret v => fr.mode = .returning ∧ fr.defers = [] ∧ ∃ fn v', P.funcs[fr.fn]? = some fn ∧ (Go.results fn fr.tmps).run P w = .ok v' w ∧ VR g.ro v g.rho v'
  | .pan v => fr.defers = [] ∧ ∃ fn v', P.funcs[fr.fn]? = some fn ∧ fr.mode = .panicking [{ v := v', recovered := false }] ∧ VR g.ro v g.rho v'

def EnterS (P : Program) (C : Ctx) (n : Nat) : Prop :=
  ∀ {f : Nat} {as : List V} {m m' : Sto} {x x' : Nat} {rv rv' : Option V} {cr : CR}, enter C n f as m x rv = some (cr, m', x', rv') →
    ∀ {g : G} {w : World} {args : Array Value} {kd : Go.CallKind} {cs : List Frame}, PR g.ro as g.rho args.toList → as.length = args.size → WR P g m w → (∀ l, x ≤ l → g.rho l = none) →
      RecOK g ⟨f, kd, none⟩ rv cs →
      ∃ g' w' fr cs', GE g g' ∧ WR P g' m' w' ∧ (∀ l, x' ≤ l → g'.rho l = none) ∧ WB w w' ∧ CSR rv cs rv' cs' ∧
        Steps P (lone (Frame.enter P f args kd) cs w) (lone fr cs' w') ∧ fr.fn = f ∧ fr.kind = kd ∧ Left P g' fr w' cr

def LeaveS (P : Program) (C : Ctx) (n : Nat) : Prop :=
  ∀ {F : PFun} {s : S} {pn : Option V} {m' : Sto} {x' : Nat} {rv' : Option V} {cr : CR}, leave C n F s pn = some (cr, m', x', rv') →
    ∀ {N : Nat} {g : G} {b : B} {tm : Array Value} {df : List Go.Deferred} {k : List Item} {cs : List Frame} {w : World} {md : Go.FrameMode} {fn : Go.Func}, SR P N g b s tm df cs w →
      P.funcs[b.fn]? = some fn → compF P fn = some F → b.ro = none →
      (match pn with | none => md = .returning | some v => ∃ v', md = .panicking [{ v := v', recovered := false }] ∧ VR g.ro v g.rho v') →
      ∃ g' w' fr cs', GE g g' ∧ WR P g' m' w' ∧ (∀ l, x' ≤ l → g'.rho l = none) ∧ WB w w' ∧ CSR s.rv cs rv' cs' ∧
        Steps P (lone { b.at tm df k with mode := md } cs w) (lone fr cs' w') ∧ fr.fn = b.fn ∧ fr.kind = b.kd ∧ Left P g' fr w' cr

/-- A loop, from a round's end on. -/
def LoopS (P : Program) (C : Ctx) (n : Nat) : Prop :=
  ∀ {N : Nat} {c : Go.Code} {pc : PCode} {s s' : S} {x : X}, comp P N c = some pc → exec C n (.loop pc) s = some (x, s') →
    ∀ {b : B} {tm : Array Value} {df : List Go.Deferred} {cs : List Frame} {w : World} {g : G} (k : List Item), SR P N g b s tm df cs w →
      ∃ g' tm' df' cs' w', To P N b g s cs w g' s' tm' df' cs' w' ∧ Lands P g' b k (lone (b.at tm df (.inLoop c :: k)) cs w) x tm' df' cs' w'

structure Sound (P : Program) (C : Ctx) (n : Nat) : Prop where
  exec : ExecS P C n
  loop : LoopS P C n
  segs : SegsS P C n
  ops : OpsS P C n
  any : AnyS P C n
  call : CallS P C n
  enter : EnterS P C n
  leave : LeaveS P C n

end Pi


/- The run of code: its forms, one by one. -/
namespace Pi
open Go (IntKind TypeId FuncId Fn BinOp UnOp LoopState Value Addr World Program undef Operand Sem Result Frame Item step lone Steps step_lone_go stepG)

section
variable {P : Program} {C : Ctx} {n : Nat}

theorem To.refl {N : Nat} {b : B} {g : G} {s : S} {tm : Array Value} {df : List Go.Deferred} {cs : List Frame} {w : World} (h : SR P N g b s tm df cs w) : To P N b g s cs w g s tm df cs w :=
  ⟨GE.refl _, h, WB.refl _, CSR.refl _ _, rfl⟩

theorem loop_sound (ih : Sound P C n) {N : Nat} {c : Go.Code} {pc : PCode} {s s' : S} {x : X} (h1 : comp P N c = some pc) (he : exec C (n + 1) (.loop pc) s = some (x, s'))
    {b : B} {tm : Array Value} {df : List Go.Deferred} {cs : List Frame} {w : World} {g : G} (k : List Item) (hs : SR P N g b s tm df cs w) {m : Go.Machine}
    (start : Steps P m (lone (b.at tm df (.code c :: .inLoop c :: k)) cs w)) :
      ∃ g' tm' df' cs' w', To P N b g s cs w g' s' tm' df' cs' w' ∧ Lands P g' b k m x tm' df' cs' w' := by
  simp only [exec, Option.bind_eq_some_iff] at he
  obtain ⟨⟨x1, s1⟩, h3, h4⟩ := he
  obtain ⟨g1, tm1, df1, cs1, w1, t1, l1⟩ := ih.exec h1 h3 (.inLoop c :: k) hs
  cases x1 with
  | nor =>
    obtain ⟨g2, tm2, df2, cs2, w2, t2, l2⟩ := ih.loop h1 h4 k t1.sr
    exact ⟨g2, tm2, df2, cs2, w2, t1.trans t2, (l2.steps l1).steps start⟩
  | exit id =>
    simp only [Option.some.injEq, Prod.mk.injEq] at h4
    obtain ⟨rfl, rfl⟩ := h4
    exact ⟨g1, tm1, df1, cs1, w1, t1, (l1.pass (by simp) (by simp)).steps start⟩
  | ret =>
    simp only [Option.some.injEq, Prod.mk.injEq] at h4
    obtain ⟨rfl, rfl⟩ := h4
    exact ⟨g1, tm1, df1, cs1, w1, t1, (l1.pass (by simp) (by simp)).steps start⟩
  | pan v =>
    simp only [Option.some.injEq, Prod.mk.injEq] at h4
    obtain ⟨rfl, rfl⟩ := h4
    exact ⟨g1, tm1, df1, cs1, w1, t1, (l1.pass (by simp) (by simp)).steps start⟩

theorem heap_push_at (w : World) (o : Go.Obj) : ({ w with heap := w.heap.push o } : World).heap[w.heap.size]? = some o := by simp

/-- A new block of another kind. -/
theorem WR.newObj {g : G} {m : Sto} {w : World} {l n : Nat} {o : PObj} {q : Go.Obj} (h : WR P g m w) (hm : g.rho l = none)
    (ho : ObR P { g with rho := g.rho.set l (w.heap.size, n) } { w with heap := w.heap.push q } w.heap.size n o) :
    WR P { g with rho := g.rho.set l (w.heap.size, n) } (m.set l (some o)) { w with heap := w.heap.push q } :=
  WR.new h hm (fun _ hb => heap_push_lt hb) ho

theorem exec_sound (ih : Sound P C n) : ExecS P C (n + 1) := by
  intro N c pc s s' x hc he b tm df cs w g k hs
  cases c <;> simp only [comp] at hc
  case skip =>
    cases hc
    simp only [exec, Option.some.injEq, Prod.mk.injEq] at he
    obtain ⟨rfl, rfl⟩ := he
    exact ⟨g, tm, df, cs, w, To.refl hs, .one s_skip⟩
  case region id ops draw =>
    have hc' : comp P N (.region id ops draw) = some pc := by simp only [comp]; exact hc
    obtain ⟨segs, rfl⟩ : ∃ segs, pc = .reg segs := by
      split at hc
      · split at hc
        · simp only [Option.map_eq_some_iff] at hc; obtain ⟨l, _, rfl⟩ := hc; exact ⟨_, rfl⟩
        · cases hc
      · simp only [Option.map_eq_some_iff] at hc; obtain ⟨l, _, rfl⟩ := hc; exact ⟨_, rfl⟩
    simp only [exec] at he
    exact ih.segs hc' he k hs
  case seq x y =>
    simp only [Option.bind_eq_some_iff, Option.map_eq_some_iff] at hc
    obtain ⟨px, h1, py, h2, rfl⟩ := hc
    simp only [exec, Option.bind_eq_some_iff] at he
    obtain ⟨⟨x1, s1⟩, h3, h4⟩ := he
    obtain ⟨g1, tm1, df1, cs1, w1, t1, l1⟩ := ih.exec h1 h3 (.code y :: k) hs
    have start : Steps P (lone (b.at tm df (.code (.seq x y) :: k)) cs w) (lone (b.at tm df (.code x :: .code y :: k)) cs w) := .one s_seq
    cases x1 with
    | nor =>
      obtain ⟨g2, tm2, df2, cs2, w2, t2, l2⟩ := ih.exec h2 h4 k t1.sr
      exact ⟨g2, tm2, df2, cs2, w2, t1.trans t2, (l2.steps l1).steps start⟩
    | exit id =>
      simp only [Option.some.injEq, Prod.mk.injEq] at h4
      obtain ⟨rfl, rfl⟩ := h4
      exact ⟨g1, tm1, df1, cs1, w1, t1, (l1.pass (by simp) (by simp)).steps start⟩
    | ret =>
      simp only [Option.some.injEq, Prod.mk.injEq] at h4
      obtain ⟨rfl, rfl⟩ := h4
      exact ⟨g1, tm1, df1, cs1, w1, t1, (l1.pass (by simp) (by simp)).steps start⟩
    | pan v =>
      simp only [Option.some.injEq, Prod.mk.injEq] at h4
      obtain ⟨rfl, rfl⟩ := h4
      exact ⟨g1, tm1, df1, cs1, w1, t1, (l1.pass (by simp) (by simp)).steps start⟩
  case cond c x y =>
    simp only [Option.bind_eq_some_iff, Option.map_eq_some_iff] at hc
    obtain ⟨c', h1, px, h2, py, h3, rfl⟩ := hc
    simp only [exec] at he
    have hv := opd_ok hs.er h1
    split at he
    · rename_i t ht
      rw [ht] at hv
      simp only [VR] at hv
      have start := Steps.one (s_cond (P := P) (b := b) (tm := tm) (df := df) (k := k) (cs := cs) (w := w) (x := x) (y := y) hv)
      cases t with
      | true =>
        obtain ⟨g1, tm1, df1, cs1, w1, t1, l1⟩ := ih.exec h2 he k hs
        exact ⟨g1, tm1, df1, cs1, w1, t1, l1.steps start⟩
      | false =>
        obtain ⟨g1, tm1, df1, cs1, w1, t1, l1⟩ := ih.exec h3 he k hs
        exact ⟨g1, tm1, df1, cs1, w1, t1, l1.steps start⟩
    · cases he
  case block id c =>
    simp only [Option.map_eq_some_iff] at hc
    obtain ⟨pc', h1, rfl⟩ := hc
    simp only [exec, Option.bind_eq_some_iff] at he
    obtain ⟨⟨x1, s1⟩, h3, h4⟩ := he
    obtain ⟨g1, tm1, df1, cs1, w1, t1, l1⟩ := ih.exec h1 h3 (.inBlock id :: k) hs
    have start : Steps P (lone (b.at tm df (.code (.block id c) :: k)) cs w) (lone (b.at tm df (.code c :: .inBlock id :: k)) cs w) := .one s_block
    cases x1 with
    | nor =>
      simp only [Option.some.injEq, Prod.mk.injEq] at h4
      obtain ⟨rfl, rfl⟩ := h4
      exact ⟨g1, tm1, df1, cs1, w1, t1, start.trans (Steps.trans l1 (.one s_inBlock))⟩
    | exit id' =>
      obtain ⟨k2, e1, e2⟩ := l1
      by_cases hid : id' = id
      · subst hid
        simp only [if_true, Option.some.injEq, Prod.mk.injEq] at h4
        obtain ⟨rfl, rfl⟩ := h4
        refine ⟨g1, tm1, df1, cs1, w1, t1, start.trans (e2.trans (.one (s_exit ?_)))⟩
        rw [e1]
        simp [Go.exitTo]
      · simp only [hid, if_false, Option.some.injEq, Prod.mk.injEq] at h4
        obtain ⟨rfl, rfl⟩ := h4
        refine ⟨g1, tm1, df1, cs1, w1, t1, k2, ?_, start.trans e2⟩
        rw [e1]
        have : (id == id') = false := by simp; exact fun e => hid e.symm
        simp [Go.exitTo, this]
    | ret =>
      simp only [Option.some.injEq, Prod.mk.injEq] at h4
      obtain ⟨rfl, rfl⟩ := h4
      obtain ⟨k2, e2⟩ := l1
      exact ⟨g1, tm1, df1, cs1, w1, t1, k2, start.trans e2⟩
    | pan v =>
      simp only [Option.some.injEq, Prod.mk.injEq] at h4
      obtain ⟨rfl, rfl⟩ := h4
      obtain ⟨v', k2, e1, e2⟩ := l1
      exact ⟨g1, tm1, df1, cs1, w1, t1, v', k2, e1, start.trans e2⟩
  case loop c =>
    simp only [Option.map_eq_some_iff] at hc
    obtain ⟨pc', h1, rfl⟩ := hc
    exact loop_sound ih h1 he k hs (.one s_loop)
  case rangeFunc f ps a bd =>
    split at hc
    · rename_i hps
      simp only [Option.bind_eq_some_iff, Option.map_eq_some_iff] at hc
      obtain ⟨f', h1, pa, h2, pb, h3, rfl⟩ := hc
      simp only [exec] at he
      split at he
      · cases he
      · rename_i hir
        -- the loop's own blocks
        obtain ⟨l, bl, n0, mk, g1, w1, hrun, hge, hwr, hfr, hrho, hdl, hwb⟩ : ∃ (l bl n0 : Nat) (mk : List Go.Deferred) (g1 : G) (w1 : World), (Go.Instr.enterLoop b.fn tm ps a bd b.ro).run P w = .ok (l, mk) w1 ∧ GE g g1 ∧
            WR P g1 ((if s.rd.isSome then s.m else s.m.set s.x (some .dfr)).set (s.x + 1) (some (.loop ⟨s.e, ps.toList, pa, pb, .ready, none⟩))) w1 ∧ (∀ j, s.x + 2 ≤ j → g1.rho j = none) ∧
            (g1.rho (s.x + 1) = some (l, 0) ∧ bl = n0) ∧ DL g1 (if s.rd.isSome then s.ds else .mark s.x :: s.ds) (mk ++ df) ∧ WB w w1 := by
          have hloop : ∀ (g0 : G) (w0 : World) (dfb : Nat), GE g g0 → LoopR P g0 ⟨s.e, ps.toList, pa, pb, .ready, none⟩ { state := .ready, pending := none, fn := b.fn, tmps := tm, params := ps, assign := a, body := bd, defers := dfb } := by
            intro g0 w0 dfb hg0
            refine ⟨hs.er.up hg0, rfl, ⟨N, hs.size, ?_, h2, h3⟩, rfl, trivial, hs.fn⟩
            intro t ht
            have := List.all_eq_true.1 hps t ht
            simpa using this
          have hx : g.rho s.x = none := hs.fresh _ (Nat.le_refl _)
          have hx1 : g.rho (s.x + 1) = none := hs.fresh _ (by omega)
          have hrd := hs.rd
          cases hsd : s.rd with
          | none =>
            rw [hsd] at hrd
            replace hrd : b.ro = none := hrd
            simp only [Option.isSome_none, Bool.false_eq_true, if_false]
            have r1 := hs.wr.newObj (l := s.x) (n := 0) (o := .dfr) (q := .deferred (some [])) hx ⟨by simp, hs.wr.keep_size⟩
            have hx1' : (g.rho.set s.x (w.heap.size, 0)) (s.x + 1) = none := by rw [rho_set_ne _ _ (by omega)]; exact hx1
            have ge1 : GE g { g with rho := g.rho.set s.x (w.heap.size, 0) } := GE.ofRho (Rho.set_ext hx)
            have ge2 : GE { g with rho := g.rho.set s.x (w.heap.size, 0) } { g with rho := (g.rho.set s.x (w.heap.size, 0)).set (s.x + 1) (w.heap.size + 1, 0) } := GE.ofRho (Rho.set_ext hx1')
            have r2 := r1.newObj (l := s.x + 1) (n := 0) (o := .loop ⟨s.e, ps.toList, pa, pb, .ready, none⟩) (q := .loop { state := .ready, pending := none, fn := b.fn, tmps := tm, params := ps, assign := a, body := bd, defers := w.heap.size }) hx1'
              ⟨_, heap_push_at _ _, hloop _ default _ (ge1.trans (by simpa using ge2)), r1.keep_size⟩
            refine ⟨w.heap.size + 1, 0, 0, [{ target := .collected w.heap.size, args := #[] }], _, _, ?_, ge1.trans (by simpa using ge2), r2, ?_, ⟨?_, rfl⟩, ?_, ⟨rfl, rfl, rfl, by simp; omega⟩⟩
            · simp [Go.Instr.enterLoop, hrd]
              rfl
            · intro j hj
              show ((g.rho.set s.x _).set (s.x + 1) _) j = none
              rw [rho_set_ne _ _ (by omega), rho_set_ne _ _ (by omega)]
              exact hs.fresh _ (by omega)
            · simp [rho_set_same]
            · refine ⟨⟨w.heap.size, 0, ?_, rfl⟩, DL.up (ge1.trans (by simpa using ge2)) hs.dl⟩
              show ((g.rho.set s.x _).set (s.x + 1) _) s.x = _
              rw [rho_set_ne _ _ (by omega), rho_set_same]
          | some lr =>
            rw [hsd] at hrd
            obtain ⟨br, nr, e1, e2⟩ := hrd
            have hlp : ∃ q, s.m lr = some (.loop q) := by
              simp only [inRound, hsd] at hir
              split at hir
              · rename_i q hq; exact ⟨q, hq⟩
              · simp at hir
            obtain ⟨q, hq⟩ := hlp
            obtain ⟨b', n', e3, lrr, e4, e5, e6⟩ := hs.wr.obj lr _ hq
            rw [e1] at e3
            cases e3
            simp only [Option.isSome_some, if_true]
            have ge1 : GE g { g with rho := g.rho.set (s.x + 1) (w.heap.size, 0) } := GE.ofRho (Rho.set_ext hx1)
            have r2 := hs.wr.newObj (l := s.x + 1) (n := 0) (o := .loop ⟨s.e, ps.toList, pa, pb, .ready, none⟩) (q := .loop { state := .ready, pending := none, fn := b.fn, tmps := tm, params := ps, assign := a, body := bd, defers := lrr.defers }) hx1
              ⟨_, heap_push_at _ _, hloop _ default _ ge1, hs.wr.keep_size⟩
            refine ⟨w.heap.size, 0, 0, [], _, _, ?_, ge1, r2, ?_, ⟨?_, rfl⟩, ?_, ⟨rfl, rfl, rfl, by simp⟩⟩
            · simp [Go.Instr.enterLoop, e2, Go.Instr.getLoop, run_getObj (P := P) e4]
            · intro j hj
              show (g.rho.set (s.x + 1) _) j = none
              rw [rho_set_ne _ _ (by omega)]
              exact hs.fresh _ (by omega)
            · simp [rho_set_same]
            · exact DL.up ge1 hs.dl
        simp only [Option.bind_eq_some_iff] at he
        obtain ⟨⟨cr, m2, x2⟩, h4, h5⟩ := he
        have hf := (opd_ok hs.er h1).up hge
        obtain ⟨nx, q1, q2, q3⟩ := ih.call h4 (args' := #[.func (.yield l) #[] #[]]) hf ⟨_, _, rfl, by simp only [VR]; exact ⟨_, _, _, rfl, ⟨l, 0, hrho.1, rfl⟩, rfl, rfl, trivial, trivial⟩, trivial⟩ rfl hwr hfr
        obtain ⟨g2, w2, ge2, wr2, fr2, wb2, hand⟩ := q3 (b.at tm (mk ++ df) (.inRangeFunc l :: k)) cs
        have start : Steps P (lone (b.at tm df (.code (.rangeFunc f ps a bd) :: k)) cs w) (lone (frameOf P nx) (b.at tm (mk ++ df) (.inRangeFunc l :: k) :: cs) w1) := by
          unfold callM at q1
          cases nx <;> simp only [isFrame] at q2
          · exact .one (s_rangeFunc hrun q1)
          · exact .one (s_rangeFunc' hrun q1)
        have ge := hge.trans ge2
        have wb := hwb.trans wb2
        have hrd2 : RdOK g2 b s.rd := RdOK.up ge hs.rd
        cases cr with
        | pan v =>
          simp only [Option.some.injEq, Prod.mk.injEq] at h5
          obtain ⟨rfl, rfl⟩ := h5
          obtain ⟨v', e1, e2⟩ := hand
          exact ⟨g2, tm, mk ++ df, cs, w2, ⟨ge, ⟨hs.er.up ge, hs.size, DL.up ge2 hdl, wr2, fr2, hs.rc.up ge, hrd2, hs.fn⟩, wb, CSR.refl _ _, rfl⟩, v', .inRangeFunc l :: k, e1, start.trans e2⟩
        | ret v =>
          obtain ⟨v', e1, e2⟩ := hand
          simp only at h5
          split at h5
          · rename_i q hq
            split at h5
            · cases h5
            · rename_i hst
              simp only [Option.some.injEq, Prod.mk.injEq] at h5
              obtain ⟨rfl, rfl⟩ := h5
              obtain ⟨b', n', e3, lr, e4, e5, e6⟩ := wr2.obj (s.x + 1) _ hq
              have hl2 := ge2.rho _ _ hrho.1
              rw [hl2] at e3
              cases e3
              obtain ⟨_, _, _, s4, s5, _⟩ := e5
              have hend : (Go.Instr.endLoop l).run P w2 = .ok lr.pending { w2 with heap := w2.heap.setIfInBounds l (.loop { lr with state := .exhausted }) } := by
                have hne : ¬ (lr.state = .busy) := by
                  rw [s4]
                  exact hst
                simp [Go.Instr.endLoop, Go.Instr.getLoop, run_getObj (P := P) e4, run_setObj (P := P) e4, hne]
              have wr3 := wr2.gone (w' := { w2 with heap := w2.heap.setIfInBounds l (.loop { lr with state := .exhausted }) }) hq hl2 e6 (fun c hc => heap_set_ne hc)
              have toEnd : Steps P (lone (b.at tm df (.code (.rangeFunc f ps a bd) :: k)) cs w) (lone (b.at tm (mk ++ df) ((lr.pending.map Item.code).toList ++ k)) cs { w2 with heap := w2.heap.setIfInBounds l (.loop { lr with state := .exhausted }) }) := by
                refine start.trans (e2.trans (.one ?_))
                exact s_endRangeFunc hend
              refine ⟨g2, tm, mk ++ df, cs, _, ⟨ge, ⟨hs.er.up ge, hs.size, DL.up ge2 hdl, wr3, fr2, hs.rc.up ge, hrd2, hs.fn⟩, wb.trans (WB.setObj _ _ _), CSR.refl _ _, rfl⟩, ?_⟩
              cases hqp : q.pend with
              | none =>
                rw [hqp] at s5
                cases hlp : lr.pending with
                | none => rw [hlp] at toEnd; exact toEnd
                | some j => rw [hlp] at s5; exact s5.elim
              | some xx =>
                rw [hqp] at s5
                cases hlp : lr.pending with
                | none => rw [hlp] at s5; cases xx <;> exact s5.elim
                | some j =>
                  rw [hlp] at s5 toEnd
                  cases xx with
                  | nor => exact s5.elim
                  | pan v => exact s5.elim
                  | ret =>
                    cases j <;> first | exact s5.elim | exact ⟨k, toEnd⟩
                  | exit id =>
                    cases j <;> first | exact s5.elim | skip
                    simp only [JR] at s5
                    subst s5
                    exact ⟨k, rfl, toEnd⟩
          · cases h5
    · cases hc
  case refuse y =>
    cases hc
    unfold exec at he
    cases he
  case exit id =>
    cases hc
    simp only [exec, Option.some.injEq, Prod.mk.injEq] at he
    obtain ⟨rfl, rfl⟩ := he
    exact ⟨g, tm, df, cs, w, To.refl hs, k, rfl, .refl _ _⟩
  case scope c =>
    simp only [Option.map_eq_some_iff] at hc
    obtain ⟨pc', h1, rfl⟩ := hc
    simp only [exec] at he
    obtain ⟨g1, tm1, df1, cs1, w1, t1, l1⟩ := ih.exec h1 he (.inScope c :: k) hs
    have start : Steps P (lone (b.at tm df (.code (.scope c) :: k)) cs w) (lone (b.at tm df (.code c :: .inScope c :: k)) cs w) := .one s_scope
    cases x with
    | nor => exact ⟨g1, tm1, df1, cs1, w1, t1, start.trans (Steps.trans l1 (.one s_inScope))⟩
    | exit id => exact ⟨g1, tm1, df1, cs1, w1, t1, (l1.pass (by simp) (by simp)).steps start⟩
    | ret => exact ⟨g1, tm1, df1, cs1, w1, t1, (l1.pass (by simp) (by simp)).steps start⟩
    | pan v => exact ⟨g1, tm1, df1, cs1, w1, t1, (l1.pass (by simp) (by simp)).steps start⟩
  case ret =>
    cases hc
    simp only [exec, Option.some.injEq, Prod.mk.injEq] at he
    obtain ⟨rfl, rfl⟩ := he
    exact ⟨g, tm, df, cs, w, To.refl hs, k, .refl _ _⟩
  all_goals cases hc

end
end Pi


/- The run of code: a region's operations in order. -/
namespace Pi
open Go (IntKind TypeId FuncId Fn BinOp UnOp LoopState Value Addr World Program undef Operand Sem Result Frame Item step lone Steps step_lone_go stepG)

section
variable {P : Program} {C : Ctx} {n : Nat}

theorem wanted_ok {g : G} {e : Env} {tm : Array Value} (he : ER g e tm) {ops : Array Go.Oper} {o : Go.Oper} {gd : Option (Nat × Bool)} (hg : compGuard ops o = some gd) {c : Bool} (hw : wanted gd e = some c) :
    Go.Region.wanted o (Go.yielded ops tm) = c := by
  unfold compGuard at hg
  split at hg
  · rename_i h0
    cases hg
    simp only [wanted, Option.some.injEq] at hw
    subst hw
    simp [Go.Region.wanted, h0]
  · rename_i j w h0
    simp only [Option.bind_eq_some_iff, Option.map_eq_some_iff] at hg
    obtain ⟨p, h1, t, h2, rfl⟩ := hg
    have ht := he t
    simp only [wanted] at hw
    split at hw
    · rename_i cc hc
      simp only [Option.some.injEq] at hw
      rw [hc] at ht
      simp only [VR] at ht
      have hget : tm[t]? = some (.bool cc) := by
        rcases Nat.lt_or_ge t tm.size with h | h
        · simp [Array.getD, h] at ht
          simp [h, ht]
        · simp [Array.getD, Nat.not_lt.2 h, undef] at ht
      simp [Go.Region.wanted, h0, Go.yielded, h1, h2, hget, hw]
    · rename_i hc
      simp only [Option.some.injEq] at hw
      subst hw
      rw [hc] at ht
      simp only [VR] at ht
      obtain ⟨arr, e1, _⟩ := ht
      have hget : ∀ bb, tm[t]? ≠ some (.bool bb) := by
        intro bb hh
        have hlt := (Array.getElem?_eq_some_iff.1 hh).1
        have hh2 := (Array.getElem?_eq_some_iff.1 hh).2
        simp [Array.getD, hlt, hh2] at e1
      have hy : Go.yielded ops tm j = none := by
        simp only [Go.yielded, h1, Option.bind_some, h2] <;> (split <;> first | rfl | (rename_i bb hbb; exact absurd hbb (hget bb)))
      simp [Go.Region.wanted, h0, hy]
    · cases hw

theorem ER.put {g : G} {e : Env} {tm : Array Value} {N : Nat} (h : ER g e tm) (hN : N ≤ tm.size) {d : Nat} (hd : d < N) {v : V} {v' : Value} (hv : VR g.ro v g.rho v') : ER g (e.set d v) (tm.setIfInBounds d v') := by
  intro t
  by_cases e1 : t = d
  · subst e1
    simp only [Env.set, if_true]
    have : t < tm.size := by omega
    simp [Array.getD, this]
    exact hv
  · simp only [Env.set, e1, if_false]
    have := h t
    simp only [Array.getD, Array.size_setIfInBounds] at this ⊢
    split
    · rename_i hlt
      simp only [hlt, dif_pos] at this
      rw [Array.getInternal_eq_getElem] at this ⊢
      rw [Array.getElem_setIfInBounds_ne (by simpa using hlt) (fun e => e1 e.symm)]
      exact this
    · rename_i hlt
      simp only [hlt, dif_neg, not_false_eq_true] at this
      exact this

theorem SR.put {N : Nat} {g : G} {b : B} {s : S} {tm : Array Value} {df : List Go.Deferred} {cs : List Frame} {w : World} (h : SR P N g b s tm df cs w) {d : Option Nat} (hd : d.all (· < N) = true) {v : V} {v' : Value} (hv : VR g.ro v g.rho v') :
    SR P N g b (s.put d v) (putT tm d v') df cs w := by
  cases d with
  | none => exact h
  | some t =>
    have ht : t < N := by simpa using hd
    exact ⟨h.er.put h.size ht hv, by simp [putT]; exact h.size, h.dl, h.wr, h.fresh, h.rc, h.rd, h.fn⟩

theorem put_rd (s : S) (d : Option Nat) (v : V) : (s.put d v).rd = s.rd := by cases d <;> rfl
theorem put_rv (s : S) (d : Option Nat) (v : V) : (s.put d v).rv = s.rv := by cases d <;> rfl

theorem unsf_kind {o : Go.Op} {p : POp} (h : unsf P o = some p) : (∃ k x y, p = .ub k x y) ∨ ∃ x, p = .mv x := by
  have key : ∀ q : Option POp, q = some p → (∀ r, q = some r → (∃ k x y, r = .ub k x y) ∨ ∃ x, r = .mv x) → (∃ k x y, p = .ub k x y) ∨ ∃ x, p = .mv x := fun q h1 h2 => h2 p h1
  refine key _ h ?_
  intro r hr
  unfold unsf at hr
  repeat' split at hr
  all_goals simp only [Option.bind_eq_some_iff, Option.map_eq_some_iff, Option.some.injEq, reduceCtorEq, false_and, and_false, exists_false] at hr
  all_goals first
    | (subst hr; exact .inl ⟨_, _, _, rfl⟩)
    | (obtain ⟨_, _, rfl⟩ := hr; first | exact .inl ⟨_, _, _, rfl⟩ | exact .inr ⟨_, rfl⟩)
    | (obtain ⟨_, _, _, _, rfl⟩ := hr; exact .inl ⟨_, _, _, rfl⟩)
    | skip
theorem comp_old {o : Go.Op} {p : POp} (h : compOp P o = some p) (h1 : ∀ k x y, p ≠ .ub k x y) (h2 : ∀ x, p ≠ .mv x) : compOp0 P o = some p := by
  unfold compOp at h
  split at h
  · rename_i q hq
    cases h
    rcases unsf_kind hq with ⟨k, x, y, e⟩ | ⟨x, e⟩
    · exact absurd e (h1 k x y)
    · exact absurd e (h2 x)
  · exact h
theorem comp_ca {o : Go.Op} {f : Opd} {l : List Opd} (h : compOp P o = some (.ca f l)) : ∃ c fo, o = .call c ∧ c.callee = .value fo ∧ opd fo = some f ∧ opds c.args.toList = some l := by
  replace h := comp_old h (by intros; simp) (by intros; simp)
  cases o <;> simp only [compOp0] at h
  case call c =>
    obtain ⟨callee, args, at'⟩ := c
    cases callee with
    | value fo =>
      simp only [compCall, Option.bind_eq_some_iff, Option.map_eq_some_iff] at h
      obtain ⟨f', h1, l', h2, h3⟩ := h
      cases h3
      exact ⟨_, fo, rfl, rfl, h1, h2⟩
    | invoke r nm => cases h
    | builtin bb =>
      exfalso
      revert h
      cases bb <;> simp only [compCall] <;> (repeat' split) <;> simp [Option.bind_eq_some_iff, Option.map_eq_some_iff]
      all_goals (try (intros; (repeat' split) <;> simp [Option.bind_eq_some_iff]))
  case makeMap t r => cases r <;> cases h
  all_goals
    exfalso
    revert h
    repeat' split
    all_goals simp [Option.bind_eq_some_iff, Option.map_eq_some_iff]
    all_goals (try (intros; (repeat' split) <;> simp [Option.bind_eq_some_iff]))

theorem comp_pa {o : Go.Op} {x : Opd} (h : compOp P o = some (.pa x)) : ∃ xo, o = .panic xo ∧ opd xo = some x := by
  replace h := comp_old h (by intros; simp) (by intros; simp)
  cases o <;> simp only [compOp0] at h
  case panic xo =>
    simp only [Option.map_eq_some_iff] at h
    obtain ⟨y, h1, h2⟩ := h
    cases h2
    exact ⟨xo, rfl, h1⟩
  case call c =>
    obtain ⟨callee, args, at'⟩ := c
    exfalso
    revert h
    cases callee with
    | value fo => simp [compCall, Option.bind_eq_some_iff, Option.map_eq_some_iff]
    | invoke r nm => simp [compCall]
    | builtin bb =>
      cases bb <;> simp only [compCall] <;> (repeat' split) <;> simp [Option.bind_eq_some_iff, Option.map_eq_some_iff]
      all_goals (try (intros; (repeat' split) <;> simp [Option.bind_eq_some_iff]))
  case makeMap t r => cases r <;> cases h
  all_goals
    exfalso
    revert h
    repeat' split
    all_goals simp [Option.bind_eq_some_iff, Option.map_eq_some_iff]
    all_goals (try (intros; (repeat' split) <;> simp [Option.bind_eq_some_iff]))

theorem comp_df {o : Go.Op} {f : Opd} {l : List Opd} (h : compOp P o = some (.df f l)) : ∃ c fo, o = .defer c ∧ c.callee = .value fo ∧ opd fo = some f ∧ opds c.args.toList = some l := by
  replace h := comp_old h (by intros; simp) (by intros; simp)
  cases o <;> simp only [compOp0] at h
  case defer c =>
    obtain ⟨callee, args, at'⟩ := c
    cases callee with
    | value fo =>
      simp only [Option.bind_eq_some_iff, Option.map_eq_some_iff] at h
      obtain ⟨f', h1, l', h2, h3⟩ := h
      cases h3
      exact ⟨_, fo, rfl, rfl, h1, h2⟩
    | invoke r nm => cases h
    | builtin bb => cases h
  case call c =>
    obtain ⟨callee, args, at'⟩ := c
    exfalso
    revert h
    cases callee with
    | value fo => simp [compCall, Option.bind_eq_some_iff, Option.map_eq_some_iff]
    | invoke r nm => simp [compCall]
    | builtin bb =>
      cases bb <;> simp only [compCall] <;> (repeat' split) <;> simp [Option.bind_eq_some_iff, Option.map_eq_some_iff]
      all_goals (try (intros; (repeat' split) <;> simp [Option.bind_eq_some_iff]))
  case makeMap t r => cases r <;> cases h
  all_goals
    exfalso
    revert h
    repeat' split
    all_goals simp [Option.bind_eq_some_iff, Option.map_eq_some_iff]
    all_goals (try (intros; (repeat' split) <;> simp [Option.bind_eq_some_iff]))

theorem comp_rc {o : Go.Op} (h : compOp P o = some .rc) : ∃ c, o = .call c ∧ c.callee = .builtin .recover := by
  replace h := comp_old h (by intros; simp) (by intros; simp)
  cases o <;> simp only [compOp0] at h
  case call c =>
    obtain ⟨callee, args, at'⟩ := c
    revert h
    cases callee with
    | value fo => simp [compCall, Option.bind_eq_some_iff, Option.map_eq_some_iff]
    | invoke r nm => simp [compCall]
    | builtin bb =>
      cases bb <;> simp only [compCall] <;> (repeat' split) <;> simp [Option.bind_eq_some_iff, Option.map_eq_some_iff]
      all_goals (try (intros; (repeat' split) <;> simp [Option.bind_eq_some_iff]))
  case makeMap t r => cases r <;> cases h
  all_goals
    exfalso
    revert h
    repeat' split
    all_goals simp [Option.bind_eq_some_iff, Option.map_eq_some_iff]
    all_goals (try (intros; (repeat' split) <;> simp [Option.bind_eq_some_iff]))

theorem run_call {tm : Array Value} {o : Go.Oper} {c : Go.Call} {fo : Operand} (ho : o.op = .call c) (hc : c.callee = .value fo) (w : World) :
    (Go.execOp (evT tm) o).run P w = (callM (evT tm fo) (c.args.map (evT tm))).run P w := by
  simp only [Go.execOp, ho, Go.resolve, hc, callM]

theorem ops_sound (ih : Sound P C n) : OpsS P C (n + 1) := by
  intro N ops is ps s s' x hr he b tm df cs w g rest k hs
  cases ps with
  | nil =>
    cases is with
    | nil =>
      simp only [runOps, Option.some.injEq, Prod.mk.injEq] at he
      obtain ⟨rfl, rfl⟩ := he
      exact ⟨g, tm, df, cs, w, To.refl hs, .refl _ _, by simp, by simp⟩
    | cons i is => exact hr.elim
  | cons p ps =>
    cases is with
    | nil => exact hr.elim
    | cons i is =>
      obtain ⟨⟨oper, ho, hco⟩, hr⟩ := hr
      unfold compOper at hco
      split at hco
      · rename_i hdst
        simp only [Option.map_eq_some_iff] at hco
        obtain ⟨gd, hgd, rfl⟩ := hco
        simp only [runOps] at he
        split at he
        · cases he
        · -- not wanted
          rename_i hwt
          have hw := wanted_ok hs.er hgd hwt
          have hs1 := hs.put hdst (v := .tu []) (v' := undef) (by simp only [VR]; exact ⟨#[], rfl, rfl, trivial⟩)
          obtain ⟨g', tm', df', cs', w', t, l, e1, e2⟩ := ih.ops hr he rest k hs1
          have step1 := Steps.one (s_op_skip (P := P) (b := b) (tm := tm) (df := df) (k := k) (cs := cs) (w := w) (rest := is ++ rest) ho hw)
          refine ⟨g', tm', df', cs', w', ⟨t.ge, t.sr, t.wb, by rw [← put_rv s oper.dst (.tu [])]; exact t.cr, by rw [t.rd, put_rd]⟩, l.steps step1, e1, e2⟩
        · rename_i hwt
          have hw := wanted_ok hs.er hgd hwt
          cases hpo : compOp P oper.op with
          | none =>
            rw [hpo] at he
            simp [opD] at he
          | some po =>
            rw [hpo] at he
            simp only [Option.getD_some] at he
            -- an operation that only tells a value and writes
            have plain : ∀ {v : V} {ws : Ws}, opD po s.e s.m s.x = some (v, ws) → (∀ c, oper.op ≠ .defer c) →
                runOps C n ps ({ s with m := s.m.app ws, x := s.x + 1 }.put oper.dst v) = some (x, s') →
                ∃ g' tm' df' cs' w', To P N b g s cs w g' s' tm' df' cs' w' ∧ Lands P g' b (.inRegion ops rest :: k) (lone (b.at tm df (.inRegion ops ((i :: is) ++ rest) :: k)) cs w) x tm' df' cs' w' ∧ (∀ id, x ≠ .exit id) ∧ x ≠ .ret := by
              intro v ws hop hnd hrest
              obtain ⟨v', w1, h', h1, h2, h3, h4, h5, h6⟩ := opD_sound hs.wr (hs.fresh _ (Nat.le_refl _)) hs.er hpo hop rfl
              have step1 := Steps.one (s_op (P := P) (b := b) (tm := tm) (df := df) (k := k) (cs := cs) (rest := is ++ rest) ho hw (.inr hnd) h1)
              have ge : GE g { g with rho := h' } := GE.ofRho h2
              have hs0 : SR P N { g with rho := h' } b { s with m := s.m.app ws, x := s.x + 1 } tm df cs w1 :=
                ⟨hs.er.up ge, hs.size, hs.dl.up ge, h5, fun l hl => by
                  show h' l = none
                  rw [h3 l (by simp only at hl; omega)]
                  exact hs.fresh l (by simp only at hl; omega), hs.rc.up ge, RdOK.up ge hs.rd, hs.fn⟩
              have hs1 := hs0.put hdst (v := v) (v' := v') h4
              obtain ⟨g', tm', df', cs', w', t, l, e1, e2⟩ := ih.ops hr hrest rest k hs1
              refine ⟨g', tm', df', cs', w', ⟨ge.trans t.ge, t.sr, h6.trans t.wb, ?_, ?_⟩, l.steps step1, e1, e2⟩
              · have := t.cr
                rw [put_rv] at this
                exact this
              · rw [t.rd, put_rd]
            have nodefer : (∀ f l, po ≠ .df f l) → ∀ c, oper.op ≠ .defer c := by
              intro hnd c hc
              rw [hc] at hpo
              simp only [compOp, unsf, compOp0] at hpo
              split at hpo
              · simp only [Option.bind_eq_some_iff, Option.map_eq_some_iff] at hpo
                obtain ⟨_, _, _, _, rfl⟩ := hpo
                exact hnd _ _ rfl
              · cases hpo
            cases po
            case ca f args =>
              obtain ⟨c, fo, hc1, hc2, hc3, hc4⟩ := comp_ca hpo
              simp only [Option.bind_eq_some_iff] at he
              obtain ⟨⟨cr, m2, x2⟩, h1, h2⟩ := he
              obtain ⟨ha1, ha2⟩ := opds_ok hs.er hc4
              obtain ⟨nx, q1, q2, q3⟩ := ih.call h1 (opd_ok hs.er hc3) (args' := c.args.map (evT tm)) (by simpa using ha1) (by simp [ha2]) hs.wr hs.fresh
              obtain ⟨g2, w2, ge2, wr2, fr2, wb2, hand⟩ := q3 (b.at tm df (.inRegion ops ((i :: is) ++ rest) :: k)) cs
              have hnd : ∀ c, oper.op ≠ .defer c := by intro c'; rw [hc1]; simp
              have start : Steps P (lone (b.at tm df (.inRegion ops ((i :: is) ++ rest) :: k)) cs w) (lone (frameOf P nx) (b.at tm df (.inRegion ops ((i :: is) ++ rest) :: k) :: cs) w) := by
                rw [← run_call hc1 hc2] at q1
                cases nx <;> simp only [isFrame] at q2
                · exact .one (s_op_enter ho hw (.inr hnd) q1)
                · exact .one (s_op_round ho hw (.inr hnd) q1)
              have hs0 : SR P N g2 b { s with m := m2, x := x2 } tm df cs w2 := ⟨hs.er.up ge2, hs.size, hs.dl.up ge2, wr2, fr2, hs.rc.up ge2, RdOK.up ge2 hs.rd, hs.fn⟩
              cases cr with
              | pan v =>
                simp only [Option.some.injEq, Prod.mk.injEq] at h2
                obtain ⟨rfl, rfl⟩ := h2
                obtain ⟨v', e1, e2⟩ := hand
                exact ⟨g2, tm, df, cs, w2, ⟨ge2, hs0, wb2, CSR.refl _ _, rfl⟩, ⟨v', _, e1, start.trans e2⟩, by simp, by simp⟩
              | ret v =>
                obtain ⟨v', e1, e2⟩ := hand
                have hfin : (b.at tm df (.inRegion ops ((i :: is) ++ rest) :: k)).finish v' = b.at (putT tm oper.dst v') df (.inRegion ops (is ++ rest) :: k) := finish_at ho v'
                rw [hfin] at e2
                have hs1 := hs0.put hdst (v := v) (v' := v') e1
                obtain ⟨g', tm', df', cs', w', t, l, e3, e4⟩ := ih.ops hr h2 rest k hs1
                refine ⟨g', tm', df', cs', w', ⟨ge2.trans t.ge, t.sr, wb2.trans t.wb, ?_, ?_⟩, l.steps (start.trans e2), e3, e4⟩
                · have := t.cr
                  rw [put_rv] at this
                  exact this
                · rw [t.rd, put_rd]
            case pa y =>
              obtain ⟨xo, hc1, hc2⟩ := comp_pa hpo
              have hv := opd_ok hs.er hc2
              simp only at he
              split at he
              · rename_i t u hy
                simp only [Option.some.injEq, Prod.mk.injEq] at he
                obtain ⟨rfl, rfl⟩ := he
                rw [hy] at hv
                have hv' := hv
                simp only [VR] at hv
                obtain ⟨u', e1, e2⟩ := hv
                have hrun : (Go.execOp (evT tm) oper).run P w = .halt (.panic (evT tm xo)) w := by
                  simp [Go.execOp, hc1, Go.Instr.panic, e1]
                exact ⟨g, tm, df, cs, w, To.refl hs, ⟨evT tm xo, _, hv', .one (s_op_panic ho hw (.inr (by intro c'; rw [hc1]; simp)) hrun)⟩, by simp, by simp⟩
              · cases he
            case df f args =>
              obtain ⟨c, fo, hc1, hc2, hc3, hc4⟩ := comp_df hpo
              have hv := opd_ok hs.er hc3
              obtain ⟨ha1, ha2⟩ := opds_ok hs.er hc4
              simp only at he
              split at he
              · rename_i fn a cc hf
                split at he
                · cases he
                · rename_i hrd
                  have hro : b.ro = none := by
                    have := hs.rd
                    cases hsd : s.rd with
                    | none => rw [hsd] at this; exact this
                    | some l => rw [hsd] at hrd; simp at hrd
                  rw [hf] at hv
                  simp only [VR] at hv
                  obtain ⟨f', a', c', e1, e2, e3, e4, e5, e6⟩ := hv
                  simp only [FR] at e2
                  subst e2
                  have hrun : (Go.execOp (evT tm) oper).run P w = .ok (.defer { target := .fn (.func fn) c', args := a' ++ c.args.map (evT tm) }) w := by
                    simp [Go.execOp, hc1, Go.resolve, hc2, e1, Go.Deferred.ofValue]
                  have step1 := Steps.one (s_op_defer (P := P) (b := b) (tm := tm) (df := df) (k := k) (cs := cs) (rest := is ++ rest) ho hw hro hrun)
                  have hs0 : SR P N g b { s with ds := .call (.fn (.func fn) a cc) (args.map (Opd.ev s.e)) :: s.ds } tm ({ target := .fn (.func fn) c', args := a' ++ c.args.map (evT tm) } :: df) cs w :=
                    ⟨hs.er, hs.size, ⟨⟨fn, a, cc, c', _, rfl, rfl, e4, e6, by simp [e3, ha2], by simpa using e5.append (by simpa using e3) ha1⟩, hs.dl⟩, hs.wr, hs.fresh, hs.rc, hs.rd, hs.fn⟩
                  have hs1 := hs0.put hdst (v := .tu []) (v' := undef) (by simp only [VR]; exact ⟨#[], rfl, rfl, trivial⟩)
                  obtain ⟨g', tm', df', cs', w', t, l, e7, e8⟩ := ih.ops hr he rest k hs1
                  refine ⟨g', tm', df', cs', w', ⟨t.ge, t.sr, t.wb, ?_, ?_⟩, l.steps step1, e7, e8⟩
                  · have := t.cr
                    rw [put_rv] at this
                    exact this
                  · rw [t.rd, put_rd]
              · cases he
            case rc =>
              obtain ⟨c, hc1, hc2⟩ := comp_rc hpo
              simp only at he
              split at he
              · rename_i v hv
                obtain ⟨hkd, hro, cf, crest, rfl, hmode⟩ := hs.rc v hv
                have hrun : (Go.execOp (evT tm) oper).run P w = .ok .recover w := by
                  simp [Go.execOp, hc1, Go.resolve, hc2, Go.invoke, Go.builtin]
                have hnd : ∀ c, oper.op ≠ .defer c := by intro c'; rw [hc1]; simp
                have hst := s_recover (P := P) (b := b) (tm := tm) (df := df) (k := k) (cs := cf :: crest) (rest := is ++ rest) ho hw hnd hro hrun
                obtain ⟨v', e1, e2⟩ : ∃ v', VR g.ro v g.rho v' ∧ step P (lone (b.at tm df (.inRegion ops ((i :: is) ++ rest) :: k)) (cf :: crest) w) = .next (lone (b.at (putT tm oper.dst v') df (.inRegion ops (is ++ rest) :: k)) (recovered (cf :: crest)) w) := by
                  have hk : (b.at tm df (.inRegion ops (i :: (is ++ rest)) :: k)).kind = .deferred := hkd
                  rcases hmode with ⟨v', hm, hv'⟩ | ⟨rfl, hm⟩
                  · refine ⟨v', hv', ?_⟩
                    have : Go.tryRecover (b.at tm df (.inRegion ops (i :: (is ++ rest)) :: k)) (cf :: crest) = some (v', recovered (cf :: crest)) := by
                      simp [Go.tryRecover, hk, hm, recovered]
                    rw [List.cons_append, hst, this]
                  · refine ⟨.nilIface, by simp [VR], ?_⟩
                    have h1 : Go.tryRecover (b.at tm df (.inRegion ops (i :: (is ++ rest)) :: k)) (cf :: crest) = none := by
                      simp [Go.tryRecover, hk, hm]
                    have h2 : recovered (cf :: crest) = cf :: crest := by simp [recovered, hm]
                    rw [List.cons_append, hst, h1, h2]
                have hs0 : SR P N g b { s with rv := none } tm df (recovered (cf :: crest)) w := ⟨hs.er, hs.size, hs.dl, hs.wr, hs.fresh, fun v hv => (by cases hv), hs.rd, hs.fn⟩
                have hs1 := hs0.put hdst (v := v) (v' := v') e1
                obtain ⟨g', tm', df', cs', w', t, l, e7, e8⟩ := ih.ops hr he rest k hs1
                refine ⟨g', tm', df', cs', w', ⟨t.ge, t.sr, t.wb, ?_, ?_⟩, l.steps (.one e2), e7, e8⟩
                · have := t.cr
                  rw [put_rv] at this
                  exact (CSR.trans (.inr ⟨v, hv, rfl, rfl⟩) this)
                · rw [t.rd, put_rd]
              · cases he
            all_goals
              simp only [Option.bind_eq_some_iff] at he
              obtain ⟨⟨v, ws⟩, h1, h2⟩ := he
              exact plain h1 (nodefer (by simp)) h2
      · cases hco

end
end Pi


/- The run of code: functions entered and left. -/
namespace Pi
open Go (IntKind TypeId FuncId Fn BinOp UnOp LoopState Value Addr World Program undef Operand Sem Result Frame Item step lone Steps step_lone_go stepG)

section
variable {P : Program} {C : Ctx} {n : Nat}

theorem resL_ok {g : G} {e : Env} {m : Sto} {tm : Array Value} {w : World} (he : ER g e tm) (hw : WR P g m w) : ∀ {rs : List Go.ResultVar} {rv : List RVar} {l : List V}, compR P rs = some rv → resL e m rv = some l →
    ∃ vs : List Value, (rs.mapM (m := Sem) fun | .tmp t => pure (tm.getD t undef) | .cell a t => do Go.loadVar t (← Go.asAddr (tm.getD a undef))).run P w = .ok vs w ∧ PR g.ro l g.rho vs ∧ l.length = vs.length
  | [], rv, l, hc, hr => by
    cases hc
    cases hr
    exact ⟨[], by simp, trivial, rfl⟩
  | .tmp t :: rs, rv, l, hc, hr => by
    simp only [compR, Option.map_eq_some_iff] at hc
    obtain ⟨rv', h1, rfl⟩ := hc
    simp only [resL, resV, Option.bind_eq_some_iff, Option.map_eq_some_iff, Option.some.injEq] at hr
    obtain ⟨v, rfl, l', h2, rfl⟩ := hr
    obtain ⟨vs, h3, h4, h5⟩ := resL_ok he hw h1 h2
    exact ⟨tm.getD t undef :: vs, by simp only [List.mapM_cons, Sem.run_bind, Sem.run_pure, Result.andThen_ok, h3], ⟨_, _, rfl, he t, h4⟩, by simp [h5]⟩
  | .cell a t :: rs, rv, l, hc, hr => by
    simp only [compR, Option.bind_eq_some_iff, Option.map_eq_some_iff] at hc
    obtain ⟨ag, ha, nn, hn, rv', h1, rfl⟩ := hc
    simp only [resL, Option.bind_eq_some_iff, Option.map_eq_some_iff] at hr
    obtain ⟨v, hv, l', h2, rfl⟩ := hr
    obtain ⟨vs, h3, h4, h5⟩ := resL_ok he hw h1 h2
    have hea := he a
    simp only [resV] at hv
    split at hv
    · rename_i lo off hp
      rw [hp] at hea
      simp only [VR] at hea
      obtain ⟨b, k, e1, e2⟩ := hea
      split at hv
      · rename_i cs r hm
        obtain ⟨b', k', e3, arr, ee, f, f1, f2, f3, f4, f5⟩ := hw.obj lo _ hm
        rw [e1] at e3
        cases e3
        obtain ⟨v', h6, h7⟩ := part_rel f4 f3 hv
        refine ⟨v' :: vs, ?_, ⟨_, _, rfl, h7, h4⟩, by simp [h5]⟩
        have hA : (Go.asAddr (tm.getD a undef)).run P w = .ok { block := b, off := off } w := by rw [e2]; rfl
        simp only [List.mapM_cons, Sem.run_bind, hA, Sem.run_pure, Result.andThen_ok, run_loadVar ha hn f1 h6, h3]
      · rename_i cs hm
        obtain ⟨b', k', e3, arr, ee, f, f1, f2, f3, f4, f5⟩ := hw.obj lo _ hm
        rw [e1] at e3
        cases e3
        obtain ⟨v', h6, h7⟩ := part_rel f4 f3 hv
        refine ⟨v' :: vs, ?_, ⟨_, _, rfl, h7, h4⟩, by simp [h5]⟩
        have hA : (Go.asAddr (tm.getD a undef)).run P w = .ok { block := b, off := off } w := by rw [e2]; rfl
        simp only [List.mapM_cons, Sem.run_bind, hA, Sem.run_pure, Result.andThen_ok, run_loadVar ha hn f1 h6, h3]
      · cases hv
    · cases hv

theorem result_ok {g : G} {e : Env} {m : Sto} {tm : Array Value} {w : World} (he : ER g e tm) (hw : WR P g m w) {fn : Go.Func} {rs : List RVar} (hc : compR P fn.results.toList = some rs) {v : V} (hr : result e m rs = some v) :
    ∃ v', (Go.results fn tm).run P w = .ok v' w ∧ VR g.ro v g.rho v' := by
  simp only [result, Option.map_eq_some_iff] at hr
  obtain ⟨l, h1, h2⟩ := hr
  obtain ⟨vs, h3, h4, h5⟩ := resL_ok he hw hc h1
  have hmap : fn.results.mapM (m := Sem) (fun | .tmp t => pure (tm.getD t undef) | .cell a t => do Go.loadVar t (← Go.asAddr (tm.getD a undef))) =
      (List.toArray <$> fn.results.toList.mapM (m := Sem) fun | .tmp t => pure (tm.getD t undef) | .cell a t => do Go.loadVar t (← Go.asAddr (tm.getD a undef))) := Array.mapM_eq_mapM_toList
  have hrun : (Go.results fn tm).run P w = .ok (if h : vs.toArray.size = 1 then vs.toArray[0] else .tuple vs.toArray) w := by
    unfold Go.results
    rw [Sem.run_bind]
    have e9 : (fn.results.mapM (m := Sem) (fun | .tmp t => pure (tm.getD t undef) | .cell a t => do Go.loadVar t (← Go.asAddr (tm.getD a undef)))).run P w = .ok vs.toArray w := by
      rw [hmap, Sem.run_map, h3]; rfl
    erw [e9]
    rfl
  cases l with
  | nil =>
    cases vs with
    | nil =>
      subst h2
      exact ⟨_, hrun, by simp only [VR]; exact ⟨_, rfl, rfl, trivial⟩⟩
    | cons a b => simp at h5
  | cons x xs =>
    cases vs with
    | nil => simp at h5
    | cons a b =>
      cases xs with
      | nil =>
        cases b with
        | nil =>
          simp only at h2
          subst h2
          obtain ⟨_, _, e1, e2, _⟩ := h4
          cases e1
          exact ⟨a, by simpa using hrun, e2⟩
        | cons c d => simp at h5
      | cons y ys =>
        cases b with
        | nil => simp at h5
        | cons c d =>
          simp only at h2
          subst h2
          refine ⟨.tuple (a :: c :: d).toArray, ?_, by simp only [VR]; exact ⟨_, rfl, by simpa using h5, h4⟩⟩
          rw [hrun]
          simp

theorem s_return_def_same {cs : List Frame} {w : World} {fr : Frame} (hm : fr.mode = .returning) (hd : fr.defers = []) (hk : fr.kind = .deferred) {fn : Go.Func} (hf : P.funcs[fr.fn]? = some fn) {v : Value} (hr : (Go.results fn fr.tmps).run P w = .ok v w) (c : Frame)
    (hc : c.mode = .returning ∨ ∃ v', c.mode = .panicking [{ v := v', recovered := false }]) :
    step P (lone fr (c :: cs) w) = .next (lone c cs w) := by
  have := s_return_deferred (P := P) (cs := cs) hm hd hk hf hr c
  rcases hc with h | ⟨v', h⟩
  · simpa [h] using this
  · simpa [h] using this

theorem leave_sound (lk : Lnk P C) (ih : Sound P C n) : LeaveS P C (n + 1) := by
  intro F s pn m' x' rv' cr he N g b tm df k cs w md fn hs hfn hF hro hmd
  have hF' : compR P fn.results.toList = some F.rs := by
    simp only [compF, Option.bind_eq_some_iff, Option.map_eq_some_iff] at hF
    obtain ⟨c, _, c', _, rs, h, rfl⟩ := hF
    exact h
  unfold leave at he; simp only at he
  split at he
  · -- nothing deferred
    rename_i hds
    have hdl := hs.dl
    rw [hds] at hdl
    cases df with
    | cons a b => exact hdl.elim
    | nil =>
      cases pn with
      | none =>
        simp only [Option.map_eq_some_iff, Prod.mk.injEq] at he
        obtain ⟨v, h1, rfl, rfl, rfl, rfl⟩ := he
        obtain ⟨v', h2, h3⟩ := result_ok hs.er hs.wr hF' h1
        refine ⟨g, w, _, cs, GE.refl _, hs.wr, hs.fresh, WB.refl _, CSR.refl _ _, .refl _ _, rfl, rfl, hmd, rfl, fn, v', hfn, h2, h3⟩
      | some v =>
        simp only [Option.some.injEq, Prod.mk.injEq] at he
        obtain ⟨rfl, rfl, rfl, rfl⟩ := he
        obtain ⟨v', h1, h2⟩ := hmd
        exact ⟨g, w, _, cs, GE.refl _, hs.wr, hs.fresh, WB.refl _, CSR.refl _ _, .refl _ _, rfl, rfl, rfl, fn, v', hfn, h1, h2⟩
  · -- a mark
    rename_i l r hds
    split at he
    · rename_i hm
      have hdl := hs.dl
      rw [hds] at hdl
      cases df with
      | nil => exact hdl.elim
      | cons d df =>
        obtain ⟨⟨bl, nn, e1, rfl⟩, hdl⟩ := hdl
        obtain ⟨b', n', e2, e3, e4⟩ := hs.wr.obj l _ hm
        rw [e1] at e2
        cases e2
        have hrun : (Go.Instr.takeDeferred bl).run P w = .ok [] { w with heap := w.heap.setIfInBounds bl (.deferred none) } := by
          simp [Go.Instr.takeDeferred, run_getObj (P := P) e3, run_setObj (P := P) e3]
        have hmd' : md ≠ .run := by
          cases pn with
          | none => rw [hmd]; simp
          | some v => obtain ⟨v', h1, _⟩ := hmd; rw [h1]; simp
        have st := s_mark (P := P) (cs := cs) (w := w) (fr := { b.at tm ({ target := .collected bl, args := #[] } :: df) k with mode := md }) hmd' rfl hrun
        have wr3 := hs.wr.gone (w' := { w with heap := w.heap.setIfInBounds bl (.deferred none) }) hm e1 e4 (fun c hc => heap_set_ne hc)
        obtain ⟨g2, w2, fr, cs2, q1, q2, q3, q4, q5, q6, q7, q8, q9⟩ := ih.leave he (k := k) (cs := cs) ⟨hs.er, hs.size, hdl, wr3, hs.fresh, hs.rc, hs.rd, hs.fn⟩ hfn hF hro hmd
        exact ⟨g2, w2, fr, cs2, q1, q2, q3, (WB.setObj _ _ _).trans q4, q5, (Steps.one st).trans q6, q7, q8, q9⟩
    · cases he
  · -- a call
    rename_i f args r hds
    split at he
    · rename_i gg first cap
      simp only [Option.bind_eq_some_iff] at he
      obtain ⟨⟨cr1, m1, x1, rv1⟩, h1, h2⟩ := he
      have hdl := hs.dl
      rw [hds] at hdl
      cases df with
      | nil => exact hdl.elim
      | cons d df =>
        obtain ⟨⟨fn', a, c, cap', as', e1, rfl, e2, e3, e4, e5⟩, hdl⟩ := hdl
        cases e1
        have hmd' : md ≠ .run := by
          cases pn with
          | none => rw [hmd]; simp
          | some v => obtain ⟨v', h3, _⟩ := hmd; rw [h3]; simp
        obtain ⟨fnn, hfnn, hname, hbody⟩ : ∃ fnn, P.funcs[gg]? = some fnn ∧ fnn.name ≠ "runtime.NumGoroutine" ∧ fnn.body.isSome := by
          cases n with
          | zero => simp [enter] at h1
          | succ n =>
            simp only [enter, Option.bind_eq_some_iff] at h1
            obtain ⟨F1, hF1, _⟩ := h1
            obtain ⟨fnn, p1, p2, p3⟩ := lk.fns _ _ hF1
            refine ⟨fnn, p1, p3, ?_⟩
            simp only [compF, Option.bind_eq_some_iff] at p2
            obtain ⟨c, hc, _⟩ := p2
            simp [hc]
        have hinv : (Go.invoke (.fn (.func gg) cap') as').run P w = .ok (.enter gg (as' ++ cap')) w := by
          have hb : fnn.body.isNone = false := by cases hh : fnn.body <;> simp [hh] at hbody ⊢
          simp [Go.invoke, Go.callFunc, hfnn, hname, hb]
          try (intro h; rw [h] at hbody; simp at hbody)
        let fr0 : Frame := { b.at tm df k with mode := md }
        have st := s_deferred (P := P) (cs := cs) (w := w) (fr := { b.at tm ({ target := .fn (.func gg) cap', args := as' } :: df) k with mode := md }) hmd' rfl hinv
        have hrc : RecOK g ⟨gg, .deferred, none⟩ (some (pn.getD .ni)) (fr0 :: cs) := by
          intro v hv
          refine ⟨rfl, rfl, fr0, cs, rfl, ?_⟩
          cases pn with
          | none =>
            simp only [Option.getD_none, Option.some.injEq] at hv
            exact .inr ⟨hv.symm, hmd⟩
          | some u =>
            simp only [Option.getD_some, Option.some.injEq] at hv
            subst hv
            obtain ⟨v', h3, h4⟩ := hmd
            exact .inl ⟨v', h3, h4⟩
        obtain ⟨g2, w2, fr2, cs2, q1, q2, q3, q4, q5, q6, q7, q8, q9⟩ := ih.enter h1 (kd := .deferred) (cs := fr0 :: cs) (args := as' ++ cap')
          (by simpa using e5.append (by simpa using e4) e3) (by simp at e4 ⊢; omega) hs.wr hs.fresh hrc
        cases cr1 with
        | pan v => cases h2
        | ret v =>
          obtain ⟨z1, z2, fn2, v2, z3, z4, z5⟩ := q9
          have goes : ∀ (md2 : Go.FrameMode) (cs3 : List Frame), Steps P (lone fr2 cs2 w2) (lone { b.at tm df k with mode := md2 } cs w2) →
              (match (if rv1.isNone then none else pn) with | none => md2 = .returning | some v => ∃ v', md2 = .panicking [{ v := v', recovered := false }] ∧ VR g2.ro v g2.rho v') →
              ∃ g' w' fr cs', GE g g' ∧ WR P g' m' w' ∧ (∀ l, x' ≤ l → g'.rho l = none) ∧ WB w w' ∧ CSR s.rv cs rv' cs' ∧
                Steps P (lone { b.at tm ({ target := .fn (.func gg) cap', args := as' } :: df) k with mode := md } cs w) (lone fr cs' w') ∧ fr.fn = b.fn ∧ fr.kind = b.kd ∧ Left P g' fr w' cr := by
            intro md2 cs3 hst hm2
            obtain ⟨g3, w3, fr3, cs4, p1, p2, p3, p4, p5, p6, p7, p8, p9⟩ := ih.leave h2 (k := k) (cs := cs) (md := md2) ⟨hs.er.up q1, hs.size, hdl.up q1, q2, q3, hs.rc.up q1, hs.rd.up q1, hs.fn⟩ hfn hF hro hm2
            exact ⟨g3, w3, fr3, cs4, q1.trans p1, p2, p3, q4.trans p4, p5, (Steps.one st).trans (q6.trans (hst.trans p6)), p7, p8, p9⟩
          rcases q5 with ⟨rfl, rfl⟩ | ⟨u, hu, rfl, rfl⟩
          · -- nothing recovered
            refine goes md cs ?_ ?_
            · refine .one (s_return_def_same z1 z2 q8 z3 z4 fr0 ?_)
              cases pn with
              | none => exact .inl hmd
              | some v => obtain ⟨v', h3, _⟩ := hmd; exact .inr ⟨v', h3⟩
            · simp only [Option.isNone_some, Bool.false_eq_true, if_false]
              cases pn with
              | none => exact hmd
              | some v => obtain ⟨v', h3, h4⟩ := hmd; exact ⟨v', h3, h4.up q1⟩
          · -- recovered
            refine goes .returning cs ?_ (by simp)
            cases pn with
            | none =>
              have hrec : recovered (fr0 :: cs) = fr0 :: cs := by simp [recovered, fr0, hmd]
              rw [hrec]
              have hret := s_return_def_same (P := P) (cs := cs) (w := w2) z1 z2 q8 z3 z4 fr0 (.inl hmd)
              have : fr0 = { b.at tm df k with mode := .returning } := by simp only [fr0]; rw [hmd]
              rw [this] at hret ⊢
              exact .one hret
            | some v =>
              obtain ⟨v', h3, h4⟩ := hmd
              have hrec : recovered (fr0 :: cs) = { b.at tm df k with mode := .panicking [{ v := v', recovered := true }] } :: cs := by
                simp [recovered, fr0, h3]
              rw [hrec]
              have hret := s_return_deferred (P := P) (cs := cs) (w := w2) z1 z2 q8 z3 z4 { b.at tm df k with mode := .panicking [{ v := v', recovered := true }] }
              exact .one hret
    · cases he

theorem enter_sound (lk : Lnk P C) (ih : Sound P C n) : EnterS P C (n + 1) := by
  intro f as m m' x x' rv rv' cr he g w args kd cs hp hl hw hfr hrc
  simp only [enter, Option.bind_eq_some_iff] at he
  obtain ⟨F, hF, ⟨xx, s1⟩, h1, h2⟩ := he
  obtain ⟨fn, p1, p2, p3⟩ := lk.fns _ _ hF
  have p2' := p2
  simp only [compF, Option.bind_eq_some_iff, Option.map_eq_some_iff] at p2
  obtain ⟨c, hc, pc, hpc, rs, hrs, rfl⟩ := p2
  have hframe : Frame.enter P f args kd = (⟨f, kd, none⟩ : B).at (args ++ Array.replicate (fn.ntmps - args.size) undef) [] [.code c] := by
    simp [Frame.enter, p1, hc, B.at]
  have hs : SR P fn.ntmps g ⟨f, kd, none⟩ ⟨envOf as, m, x, [], rv, none⟩ (args ++ Array.replicate (fn.ntmps - args.size) undef) [] cs w := by
    refine ⟨?_, by simp; omega, trivial, hw, hfr, hrc, rfl, fn, p1⟩
    intro t
    simp only [envOf]
    by_cases ht : t < as.length
    · have h3 : as[t]? = some as[t] := List.getElem?_eq_getElem ht
      have ht' : t < args.size := by omega
      have h4 : args.toList[t]? = some args[t] := by simp [ht']
      have := hp.at h3 h4
      have e1 : as.getD t .un = as[t] := by simp [List.getD, h3]
      have e2 : (args ++ Array.replicate (fn.ntmps - args.size) undef).getD t undef = args[t] := by
        simp [Array.getD, ht', Array.getElem_append_left, show t < args.size + (fn.ntmps - args.size) by omega]
      rw [e1, e2]
      exact this
    · have e1 : as.getD t .un = .un := by simp [List.getD, List.getElem?_eq_none (Nat.not_lt.1 ht)]
      rw [e1]
      simp [VR]
  obtain ⟨g1, tm1, df1, cs1, w1, t1, l1⟩ := ih.exec hpc h1 [] hs
  have fin : ∀ {pn : Option V} {md : Go.FrameMode} {k2 : List Item}, leave C n ⟨pc, rs⟩ s1 pn = some (cr, m', x', rv') →
      Steps P (lone ((⟨f, kd, none⟩ : B).at (args ++ Array.replicate (fn.ntmps - args.size) undef) [] [.code c]) cs w) (lone { (⟨f, kd, none⟩ : B).at tm1 df1 k2 with mode := md } cs1 w1) →
      (match pn with | none => md = .returning | some v => ∃ v', md = .panicking [{ v := v', recovered := false }] ∧ VR g1.ro v g1.rho v') →
      ∃ g' w' fr cs', GE g g' ∧ WR P g' m' w' ∧ (∀ l, x' ≤ l → g'.rho l = none) ∧ WB w w' ∧ CSR rv cs rv' cs' ∧
        Steps P (lone (Frame.enter P f args kd) cs w) (lone fr cs' w') ∧ fr.fn = f ∧ fr.kind = kd ∧ Left P g' fr w' cr := by
    intro pn md k2 hlv hst hm
    obtain ⟨g2, w2, fr, cs2, q1, q2, q3, q4, q5, q6, q7, q8, q9⟩ := ih.leave hlv (k := k2) t1.sr p1 p2' rfl hm
    rw [hframe]
    exact ⟨g2, w2, fr, cs2, t1.ge.trans q1, q2, q3, t1.wb.trans q4, t1.cr.trans q5, hst.trans q6, q7, q8, q9⟩
  cases xx with
  | nor => exact fin h2 (Steps.trans l1 (.one (s_end rfl))) rfl
  | ret =>
    obtain ⟨k2, l1⟩ := l1
    exact fin h2 (Steps.trans l1 (.one (s_ret rfl))) rfl
  | exit id => cases h2
  | pan v =>
    obtain ⟨v', k2, e1, l1⟩ := l1
    exact fin h2 l1 ⟨v', rfl, e1⟩

end
end Pi


/- Freezing: a value without the store says the same of the machine's value, where what it looked into stays. -/
namespace Pi
open Go (IntKind TypeId FuncId Fn BinOp UnOp LoopState Value Addr World Program undef Operand Sem Result Frame Item step lone Steps step_lone_go stepG)

abbrev noRho : Rho := fun _ => none

/-- What is asked of a thing that was looked into. -/
def Seen (g : G) (ro0 : Ro) (w : World) (ids : List Nat) : Prop := ∀ l ∈ ids, ∀ b n, g.rho l = some (b, n) → ro0 b = w.heap[b]?

theorem Seen.left {g : G} {ro0 : Ro} {w : World} {a b : List Nat} (h : Seen g ro0 w (a ++ b)) : Seen g ro0 w a := fun l hl => h l (List.mem_append.2 (.inl hl))
theorem Seen.right {g : G} {ro0 : Ro} {w : World} {a b : List Nat} (h : Seen g ro0 w (a ++ b)) : Seen g ro0 w b := fun l hl => h l (List.mem_append.2 (.inr hl))
theorem Seen.tail {g : G} {ro0 : Ro} {w : World} {l : Nat} {b : List Nat} (h : Seen g ro0 w (l :: b)) : Seen g ro0 w b := fun k hk => h k (List.mem_cons_of_mem _ hk)

/-- What is said of a thing, frozen. -/
def GoodDer (g : G) (ro0 : Ro) (w : World) (de : Nat → Option (Bool × List V × List V × List Nat)) : Prop :=
  ∀ l r, de l = some r → Seen g ro0 w r.2.2.2 → ∀ b n, g.rho l = some (b, n) →
    match r.1 with
    | false => ∃ arr e f, w.heap[b]? = some (.cells arr e f) ∧ OneL arr.toList ∧ PR ro0 r.2.1 noRho arr.toList
    | true => ∃ es ck, w.heap[b]? = some (.map es ck) ∧ r.2.1.length = es.size ∧ r.2.2.1.length = es.size ∧ PR ro0 r.2.1 noRho (es.toList.map (·.key)) ∧ PR ro0 r.2.2.1 noRho (es.toList.map (·.val))

theorem frzL_len {de : Nat → Option (Bool × List V × List V × List Nat)} : ∀ {l : List V} {r : List V × List Nat}, frzL de l = some r → r.1.length = l.length
  | [], r, h => by simp only [frzL, Option.some.injEq] at h; subst h; rfl
  | v :: l, r, h => by
    simp only [frzL, Option.bind_eq_some_iff, Option.some.injEq] at h
    obtain ⟨x, _, y, h2, rfl⟩ := h
    simp [frzL_len h2]

mutual
theorem frz_ok {g : G} {ro0 : Ro} {w : World} {de : Nat → Option (Bool × List V × List V × List Nat)} (hr : RoE g.ro ro0) (hd : GoodDer g ro0 w de) :
    ∀ (x : V) {r : V × List Nat} {v : Value}, frzW de x = some r → Seen g ro0 w r.2 → VR g.ro x g.rho v → VR ro0 r.1 noRho v
  | .b _, r, v, h, _, hv => by simp only [frzW, Option.some.injEq] at h; subst h; simpa [VR] using hv
  | .i _ _, r, v, h, _, hv => by simp only [frzW, Option.some.injEq] at h; subst h; simpa [VR] using hv
  | .s _, r, v, h, _, hv => by simp only [frzW, Option.some.injEq] at h; subst h; simpa [VR] using hv
  | .np, r, v, h, _, hv => by simp only [frzW, Option.some.injEq] at h; subst h; simpa [VR] using hv
  | .p l off, r, v, h, hs, hv => by
    simp only [frzW, Option.bind_eq_some_iff] at h
    obtain ⟨q, h1, h2⟩ := h
    split at h2
    · cases h2
    · rename_i hq
      simp only [Option.some.injEq] at h2
      subst h2
      simp only [VR] at hv ⊢
      obtain ⟨b, n, e1, e2⟩ := hv
      have := hd l q h1 hs.tail b n e1
      have hq' : q.1 = false := by simpa using hq
      simp only [hq'] at this
      obtain ⟨arr, e, f, e3, e4, e5⟩ := this
      exact ⟨b, off, arr, e, f, e2, (hs l (List.mem_cons_self) b n e1).trans e3, e4.all _ _, e5.drop off⟩
  | .rp cs, r, v, h, _, hv => by
    simp only [frzW, Option.some.injEq] at h
    subst h
    have := VR.mono hr (.rp cs) (RhoE.refl _) hv
    simpa [VR] using this
  | .ns, r, v, h, _, hv => by
    simp only [frzW, Option.some.injEq] at h
    subst h
    simp only [VR] at hv ⊢
    obtain ⟨a, e⟩ := hv
    exact ⟨a, 0, e, Nat.le_refl _, .inl ⟨trivial, trivial⟩⟩
  | .sl cs n, r, v, h, _, hv => by
    simp only [frzW, Option.some.injEq] at h
    subst h
    have := VR.mono hr (.sl cs n) (RhoE.refl _) hv
    simpa [VR] using this
  | .ms l off n esz, r, v, h, hs, hv => by
    simp only [frzW, Option.bind_eq_some_iff] at h
    obtain ⟨q, h1, h2⟩ := h
    split at h2
    · rename_i hq
      simp only [Option.some.injEq] at h2
      subst h2
      simp only [VR] at hv ⊢
      obtain ⟨b, k, cap, e1, e2, e3, e4⟩ := hv
      have := hd l q h1 hs.tail b k e1
      simp only [hq.1] at this
      obtain ⟨arr, e, f, e5, e6, e7⟩ := this
      exact ⟨_, cap, e2, e3, .inr ⟨b, off, arr, e, f, rfl, (hs l (List.mem_cons_self) b k e1).trans e5, e6.all _ _, (e7.drop off).takeL _⟩⟩
    · cases h2
  | .nm, r, v, h, _, hv => by
    simp only [frzW, Option.some.injEq] at h
    subst h
    simp only [VR] at hv ⊢
    exact .inl ⟨trivial, trivial, hv⟩
  | .mp l, r, v, h, hs, hv => by
    simp only [frzW, Option.bind_eq_some_iff] at h
    obtain ⟨q, h1, h2⟩ := h
    split at h2
    · rename_i hq
      simp only [Option.some.injEq] at h2
      subst h2
      simp only [VR] at hv ⊢
      obtain ⟨b, n, e1, e2⟩ := hv
      have := hd l q h1 hs.tail b n e1
      simp only [hq] at this
      obtain ⟨es, ck, e3, e4, e5, e6, e7⟩ := this
      exact .inr (.inl ⟨b, es, ck, e2, (hs l (List.mem_cons_self) b n e1).trans e3, e4, e5, e6, e7⟩)
    · cases h2
  | .rm ks vs, r, v, h, _, hv => by
    simp only [frzW, Option.some.injEq] at h
    subst h
    have := VR.mono hr (.rm ks vs) (RhoE.refl _) hv
    simpa [VR] using this
  | .nf, r, v, h, _, hv => by simp only [frzW, Option.some.injEq] at h; subst h; simpa [VR] using hv
  | .fn f a c, r, v, h, hs, hv => by
    simp only [frzW] at h
    split at h
    · rename_i gg
      simp only [Option.bind_eq_some_iff, Option.some.injEq] at h
      obtain ⟨x, h1, y, h2, rfl⟩ := h
      simp only [VR] at hv ⊢
      obtain ⟨f', a', c', e1, e2, e3, e4, e5, e6⟩ := hv
      exact ⟨f', a', c', e1, e2, (frzL_len h1).trans e3, (frzL_len h2).trans e4, frzL_ok hr hd a h1 hs.left e5, frzL_ok hr hd c h2 hs.right e6⟩
    · cases h
  | .ni, r, v, h, _, hv => by simp only [frzW, Option.some.injEq] at h; subst h; simpa [VR] using hv
  | .fc t x, r, v, h, hs, hv => by
    simp only [frzW, Option.bind_eq_some_iff, Option.some.injEq] at h
    obtain ⟨y, h1, rfl⟩ := h
    simp only [VR] at hv ⊢
    obtain ⟨x', e1, e2⟩ := hv
    exact ⟨x', e1, frz_ok hr hd x h1 hs e2⟩
  | .ag cs, r, v, h, hs, hv => by
    simp only [frzW, Option.bind_eq_some_iff, Option.some.injEq] at h
    obtain ⟨y, h1, rfl⟩ := h
    simp only [VR] at hv ⊢
    obtain ⟨arr, e1, e2, e3, e4⟩ := hv
    exact ⟨arr, e1, (frzL_len h1).trans e2, e3, frzL_ok hr hd cs h1 hs e4⟩
  | .tu cs, r, v, h, hs, hv => by
    simp only [frzW, Option.bind_eq_some_iff, Option.some.injEq] at h
    obtain ⟨y, h1, rfl⟩ := h
    simp only [VR] at hv ⊢
    obtain ⟨arr, e1, e2, e4⟩ := hv
    exact ⟨arr, e1, (frzL_len h1).trans e2, frzL_ok hr hd cs h1 hs e4⟩
  | .un, r, v, h, _, hv => by simp only [frzW] at h; cases h
theorem frzL_ok {g : G} {ro0 : Ro} {w : World} {de : Nat → Option (Bool × List V × List V × List Nat)} (hr : RoE g.ro ro0) (hd : GoodDer g ro0 w de) :
    ∀ (x : List V) {r : List V × List Nat} {v : List Value}, frzL de x = some r → Seen g ro0 w r.2 → PR g.ro x g.rho v → PR ro0 r.1 noRho v
  | [], r, v, h, _, hv => by simp only [frzL, Option.some.injEq] at h; subst h; simp [PR]
  | c :: cs, r, v, h, hs, hv => by
    simp only [frzL, Option.bind_eq_some_iff, Option.some.injEq] at h
    obtain ⟨x, h1, y, h2, rfl⟩ := h
    simp only [PR] at hv ⊢
    obtain ⟨v', r', e1, e2, e3⟩ := hv
    exact ⟨v', r', e1, frz_ok hr hd c h1 hs.left e2, frzL_ok hr hd cs h2 hs.right e3⟩
end

theorem der_ok {P : Program} {g : G} {m : Sto} {w : World} (hw : WR P g m w) {ro0 : Ro} (hr : RoE g.ro ro0) : ∀ d : Nat, GoodDer g ro0 w (der m d)
  | 0, l, r, h => by simp [der] at h
  | d + 1, l, r, h => by
    intro hs b n hb
    have ih := der_ok hw hr d
    simp only [der] at h
    split at h
    · rename_i cs ro hm
      simp only [Option.bind_eq_some_iff, Option.some.injEq] at h
      obtain ⟨x, h1, rfl⟩ := h
      obtain ⟨b', n', e1, arr, e, f, e2, e3, e4, e5, e6⟩ := hw.obj l _ hm
      rw [hb] at e1
      cases e1
      exact ⟨arr, e, f, e2, e4, frzL_ok hr ih cs h1 hs e5⟩
    · rename_i cs hm
      simp only [Option.bind_eq_some_iff, Option.some.injEq] at h
      obtain ⟨x, h1, rfl⟩ := h
      obtain ⟨b', n', e1, arr, e, f, e2, e3, e4, e5, e6⟩ := hw.obj l _ hm
      rw [hb] at e1
      cases e1
      exact ⟨arr, e, f, e2, e4, frzL_ok hr ih cs h1 hs e5⟩
    · rename_i ks vs ro hm
      simp only [Option.bind_eq_some_iff, Option.some.injEq] at h
      obtain ⟨x, h1, y, h2, rfl⟩ := h
      obtain ⟨b', n', e1, es, ck, e2, e3, e4, e5, e6, e7⟩ := hw.obj l _ hm
      rw [hb] at e1
      cases e1
      exact ⟨es, ck, e2, (frzL_len h1).trans e3, (frzL_len h2).trans e4, frzL_ok (r := x) hr ih ks h1 hs.left e5, frzL_ok (r := y) hr ih vs h2 hs.right e6⟩
    · cases h

theorem freeze_ok {P : Program} {g : G} {m : Sto} {w : World} (hw : WR P g m w) {ro0 : Ro} (hr : RoE g.ro ro0) {x : V} {r : V × List Nat} {v : Value} (h : freeze m x = some r) (hs : Seen g ro0 w r.2) (hv : VR g.ro x g.rho v) : VR ro0 r.1 noRho v :=
  frz_ok hr (der_ok hw hr _) x h hs hv
theorem freezeL_ok {P : Program} {g : G} {m : Sto} {w : World} (hw : WR P g m w) {ro0 : Ro} (hr : RoE g.ro ro0) {x : List V} {r : List V × List Nat} {v : List Value} (h : freezeL m x = some r) (hs : Seen g ro0 w r.2) (hv : PR g.ro x g.rho v) : PR ro0 r.1 noRho v :=
  frzL_ok hr (der_ok hw hr _) x h hs hv

/-! What was looked into is there, and no loop. -/
def There (m : Sto) (ids : List Nat) : Prop := ∀ l ∈ ids, (∃ cs r, m l = some (.cells cs r)) ∨ (∃ ks vs r, m l = some (.map ks vs r)) ∨ ∃ cs, m l = some (.lit cs)

theorem There.app {m : Sto} {a b : List Nat} (h : There m a) (k : There m b) : There m (a ++ b) := fun l hl => (List.mem_append.1 hl).elim (h l) (k l)

mutual
theorem frz_there {m : Sto} {de : Nat → Option (Bool × List V × List V × List Nat)} (hd : ∀ l r, de l = some r → There m (l :: r.2.2.2)) : ∀ (x : V) {r : V × List Nat}, frzW de x = some r → There m r.2
  | .b _, r, h => by simp only [frzW, Option.some.injEq] at h; subst h; intro l hl; cases hl
  | .i _ _, r, h => by simp only [frzW, Option.some.injEq] at h; subst h; intro l hl; cases hl
  | .s _, r, h => by simp only [frzW, Option.some.injEq] at h; subst h; intro l hl; cases hl
  | .np, r, h => by simp only [frzW, Option.some.injEq] at h; subst h; intro l hl; cases hl
  | .p l off, r, h => by
    simp only [frzW, Option.bind_eq_some_iff] at h
    obtain ⟨q, h1, h2⟩ := h
    split at h2
    · cases h2
    · simp only [Option.some.injEq] at h2
      subst h2
      exact hd l q h1
  | .rp cs, r, h => by simp only [frzW, Option.some.injEq] at h; subst h; intro l hl; cases hl
  | .ns, r, h => by simp only [frzW, Option.some.injEq] at h; subst h; intro l hl; cases hl
  | .sl cs n, r, h => by simp only [frzW, Option.some.injEq] at h; subst h; intro l hl; cases hl
  | .ms l off n esz, r, h => by
    simp only [frzW, Option.bind_eq_some_iff] at h
    obtain ⟨q, h1, h2⟩ := h
    split at h2
    · simp only [Option.some.injEq] at h2
      subst h2
      exact hd l q h1
    · cases h2
  | .nm, r, h => by simp only [frzW, Option.some.injEq] at h; subst h; intro l hl; cases hl
  | .mp l, r, h => by
    simp only [frzW, Option.bind_eq_some_iff] at h
    obtain ⟨q, h1, h2⟩ := h
    split at h2
    · simp only [Option.some.injEq] at h2
      subst h2
      exact hd l q h1
    · cases h2
  | .rm ks vs, r, h => by simp only [frzW, Option.some.injEq] at h; subst h; intro l hl; cases hl
  | .nf, r, h => by simp only [frzW, Option.some.injEq] at h; subst h; intro l hl; cases hl
  | .fn f a c, r, h => by
    simp only [frzW] at h
    split at h
    · simp only [Option.bind_eq_some_iff, Option.some.injEq] at h
      obtain ⟨x, h1, y, h2, rfl⟩ := h
      exact (frzL_there hd a h1).app (frzL_there hd c h2)
    · cases h
  | .ni, r, h => by simp only [frzW, Option.some.injEq] at h; subst h; intro l hl; cases hl
  | .fc t x, r, h => by
    simp only [frzW, Option.bind_eq_some_iff, Option.some.injEq] at h
    obtain ⟨y, h1, rfl⟩ := h
    exact frz_there (r := y) hd x h1
  | .ag cs, r, h => by
    simp only [frzW, Option.bind_eq_some_iff, Option.some.injEq] at h
    obtain ⟨y, h1, rfl⟩ := h
    exact frzL_there hd cs h1
  | .tu cs, r, h => by
    simp only [frzW, Option.bind_eq_some_iff, Option.some.injEq] at h
    obtain ⟨y, h1, rfl⟩ := h
    exact frzL_there hd cs h1
  | .un, r, h => by simp only [frzW] at h; cases h
theorem frzL_there {m : Sto} {de : Nat → Option (Bool × List V × List V × List Nat)} (hd : ∀ l r, de l = some r → There m (l :: r.2.2.2)) : ∀ (x : List V) {r : List V × List Nat}, frzL de x = some r → There m r.2
  | [], r, h => by simp only [frzL, Option.some.injEq] at h; subst h; intro l hl; cases hl
  | c :: cs, r, h => by
    simp only [frzL, Option.bind_eq_some_iff, Option.some.injEq] at h
    obtain ⟨x, h1, y, h2, rfl⟩ := h
    exact (frz_there hd c h1).app (frzL_there hd cs h2)
end

theorem der_there {m : Sto} : ∀ (d : Nat) (l : Nat) (r : Bool × List V × List V × List Nat), der m d l = some r → There m (l :: r.2.2.2)
  | 0, l, r, h => by simp [der] at h
  | d + 1, l, r, h => by
    have ih := der_there (m := m) d
    simp only [der] at h
    split at h
    · rename_i cs ro hm
      simp only [Option.bind_eq_some_iff, Option.some.injEq] at h
      obtain ⟨x, h1, rfl⟩ := h
      intro k hk
      rcases List.mem_cons.1 hk with rfl | hk
      · exact .inl ⟨_, _, hm⟩
      · exact frzL_there ih cs h1 k hk
    · rename_i cs hm
      simp only [Option.bind_eq_some_iff, Option.some.injEq] at h
      obtain ⟨x, h1, rfl⟩ := h
      intro k hk
      rcases List.mem_cons.1 hk with rfl | hk
      · exact .inr (.inr ⟨_, hm⟩)
      · exact frzL_there ih cs h1 k hk
    · rename_i ks vs ro hm
      simp only [Option.bind_eq_some_iff, Option.some.injEq] at h
      obtain ⟨x, h1, y, h2, rfl⟩ := h
      intro k hk
      rcases List.mem_cons.1 hk with rfl | hk
      · exact .inr (.inl ⟨_, _, _, hm⟩)
      · exact (frzL_there ih ks h1).app (frzL_there ih vs h2) k hk
    · cases h

theorem freeze_there {m : Sto} {x : V} {r : V × List Nat} (h : freeze m x = some r) : There m r.2 := frz_there (der_there _) x h
theorem freezeL_there {m : Sto} {x : List V} {r : List V × List Nat} (h : freezeL m x = some r) : There m r.2 := frzL_there (der_there _) x h

/-! A value that lies nowhere. -/
theorem sc1_ok {x : V} (hx : x.sc1 = true) {ro ro' : Ro} {h h' : Rho} {v : Value} (hv : VR ro x h v) : VR ro' x h' v := by
  unfold V.sc1 at hx
  split at hx <;> first | (simp only [VR] at hv ⊢; exact hv) | skip
  · simp only [VR] at hv ⊢
    obtain ⟨a, cap, h1, h2, h3⟩ := hv
    exact ⟨a, cap, h1, h2, .inl ⟨trivial, trivial⟩⟩
  · cases hx

theorem sc1L_ok {ro ro' : Ro} {h h' : Rho} : ∀ {l : List V} {v : List Value}, (∀ x ∈ l, ∀ v', VR ro x h v' → VR ro' x h' v') → PR ro l h v → PR ro' l h' v
  | [], _, _, _ => by simp [PR]
  | c :: cs, v, hl, hv => by
    simp only [PR] at hv ⊢
    obtain ⟨v', r, e1, e2, e3⟩ := hv
    exact ⟨v', r, e1, hl c (List.mem_cons_self) _ e2, sc1L_ok (fun x hx => hl x (List.mem_cons_of_mem _ hx)) e3⟩

theorem sc2_ok {x : V} (hx : x.sc2 = true) {ro ro' : Ro} {h h' : Rho} {v : Value} (hv : VR ro x h v) : VR ro' x h' v := by
  unfold V.sc2 at hx
  split at hx
  · simp only [VR] at hv ⊢
    obtain ⟨arr, e1, e2, e3, e4⟩ := hv
    exact ⟨arr, e1, e2, e3, sc1L_ok (fun x hx' v' hv' => sc1_ok (List.all_eq_true.1 hx x hx') hv') e4⟩
  · exact sc1_ok hx hv

theorem scal_ok {x : V} (hx : x.scal = true) {ro ro' : Ro} {h h' : Rho} {v : Value} (hv : VR ro x h v) : VR ro' x h' v := by
  unfold V.scal at hx
  split at hx
  · simp only [VR] at hv ⊢
    obtain ⟨arr, e1, e2, e4⟩ := hv
    exact ⟨arr, e1, e2, sc1L_ok (fun x hx' v' hv' => sc2_ok (List.all_eq_true.1 hx x hx') hv') e4⟩
  · exact sc2_ok hx hv

end Pi


/- The run of code: a call. -/
namespace Pi
open Go (IntKind TypeId FuncId Fn BinOp UnOp LoopState Value Addr World Program undef Operand Sem Result Frame Item step lone Steps step_lone_go stepG)
open Classical

/-- Some blocks are read-only from here on. -/
noncomputable def lock (r : Ro) (p : Nat → Prop) (w : World) : Ro := fun b => if p b then w.heap[b]? else r b

def Lent (g : G) (ids : List Nat) (b : Nat) : Prop := ∃ l ∈ ids, ∃ n, g.rho l = some (b, n)

/-- What a closed call knows. -/
noncomputable def shut (g : G) (ids : List Nat) (w : World) : G := ⟨noRho, lock g.ro (Lent g ids) w, fun b => w.heap[b]?⟩

section
variable {P : Program} {C : Ctx} {n : Nat}

theorem lock_ext {g : G} {m : Sto} {w : World} (hw : WR P g m w) (p : Nat → Prop) : RoE g.ro (lock g.ro p w) := by
  intro b o h
  unfold lock
  split
  · exact hw.keep _ _ (hw.ro _ _ h)
  · exact h

theorem shut_wr {g : G} {m : Sto} {w : World} (hw : WR P g m w) (ids : List Nat) : WR P (shut g ids w) (fun _ => none) w := by
  refine ⟨fun l o h => (by cases h), fun l k o o' b n n' h => (by cases h), fun b o h => ?_, fun b o h => h⟩
  simp only [shut, lock] at h ⊢
  split at h
  · exact h
  · exact hw.keep _ _ (hw.ro _ _ h)

/-- A closed call: what it answers, in the caller's sight. -/
theorem closed_ok {g : G} {m : Sto} {w : World} (hw : WR P g m w) {ids : List Nat} (hi : There m ids) {g1 : G} {m1 : Sto} {w1 : World} (hg : GE (shut g ids w) g1) (hw1 : WR P g1 m1 w1) (hb : WB w w1)
    {v : V} {v' : Value} (hv : VR g1.ro v g1.rho v') {r : V × List Nat} (hf : freeze m1 v = some r) :
    (WR P g m w1) ∧ (r.1.scal = true → VR g.ro r.1 g.rho v') ∧
    ∃ g', g'.rho = g.rho ∧ GE g g' ∧ WR P g' (markRo m ids) w1 ∧ VR g'.ro r.1 g'.rho v' := by
  -- what stays
  have same : ∀ b o, w.heap[b]? = some o → w1.heap[b]? = some o := fun b o h => hw1.keep _ _ (hg.keep _ _ h)
  have same' : ∀ b, b < w.heap.size → w1.heap[b]? = w.heap[b]? := by
    intro b hlt
    have : w.heap[b]? = some w.heap[b] := Array.getElem?_eq_getElem hlt
    rw [this]
    exact same _ _ this
  let p : Nat → Prop := fun b => w.heap.size ≤ b ∨ Lent g ids b
  let rF : Ro := lock g.ro p w1
  have hlt : ∀ {b o}, g.keep b = some o → b < w.heap.size := fun h => (Array.getElem?_eq_some_iff.1 (hw.keep _ _ h)).1
  have ext : RoE g1.ro rF := by
    intro b o h
    have h1 := hw1.keep _ _ (hw1.ro _ _ h)
    simp only [rF, lock]
    split
    · exact h1
    · rename_i hp
      rcases hg.new b o h with h2 | h2
      · simp only [shut, lock] at h2
        split at h2
        · rename_i hl; exact absurd (.inr hl) hp
        · exact h2
      · simp only [shut] at h2
        exact absurd (.inl (by simpa using h2)) hp
  have seen : Seen g1 rF w1 r.2 := by
    intro l hl b k hb1
    have obj : ∃ o, m1 l = some o ∧ (∀ q, o ≠ .loop q) ∧ o ≠ .dfr := by
      rcases freeze_there hf l hl with ⟨cs, r, h⟩ | ⟨ks, vs, r, h⟩ | ⟨cs, h⟩ <;> exact ⟨_, h, by simp, by simp⟩
    obtain ⟨o, ho, hnl, hnd⟩ := obj
    obtain ⟨b', n', e1, e2⟩ := hw1.obj l o ho
    rw [hb1] at e1
    cases e1
    have key : g1.ro b = w1.heap[b]? ∨ g1.keep b = none := by
      cases o with
      | cells cs ro =>
        obtain ⟨arr, e, f, h1, _, _, _, _, h2⟩ := e2
        cases ro with
        | true => exact .inl (by simp only [if_true] at h2; rw [h2, h1])
        | false => exact .inr (by simpa using h2)
      | map ks vs ro =>
        obtain ⟨es, ck, h1, _, _, _, _, h2⟩ := e2
        cases ro with
        | true => exact .inl (by simp only [if_true] at h2; rw [h2, h1])
        | false => exact .inr (by simpa using h2)
      | loop q => exact absurd rfl (hnl q)
      | dfr => exact absurd rfl hnd
      | lit cs =>
        obtain ⟨arr, e, f, h1, _, _, _, _, h2, _⟩ := e2
        exact .inr h2
      | tc T cs =>
        obtain ⟨arr, f, h1, _, _, _, _, h2, _⟩ := e2
        exact .inr h2
      | tr T cs =>
        obtain ⟨arr, f, h1, _, _, h2⟩ := e2
        exact .inr h2
    rcases key with h | h
    · have hlt1 : b < w1.heap.size := e2.lt
      have h2 : w1.heap[b]? = some w1.heap[b] := Array.getElem?_eq_getElem hlt1
      rw [h2] at h ⊢
      exact ext _ _ h
    · have : w.heap[b]? = none := by
        cases hh : w.heap[b]? with
        | none => rfl
        | some q => rw [hg.keep b q hh] at h; cases h
      simp only [rF, lock]
      rw [if_pos (.inl (by simpa using this))]
  have hvF := freeze_ok hw1 ext hf seen hv
  have wrSame : WR P g m w1 := ⟨fun l o h => let ⟨b, k, h1, h2⟩ := hw.obj l o h; ⟨b, k, h1, h2.mono (RhoE.refl _) (RoE.refl _) id (same' b h2.lt)⟩, hw.inj, hw.ro, fun b o h => same _ _ (hw.keep _ _ h)⟩
  refine ⟨wrSame, fun hs => scal_ok hs hvF, ⟨g.rho, rF, lock g.keep p w1⟩, rfl, ?_, ?_, ?_⟩
  · refine ⟨RhoE.refl _, lock_ext wrSame _, ?_, ?_⟩
    · intro b o h
      show lock g.keep p w1 b = some o
      unfold lock
      split
      · exact same _ _ (hw.keep _ _ h)
      · exact h
    · intro b o h
      simp only [rF, lock] at h
      split at h
      · rename_i hp
        rcases hp with hp | ⟨l, hl, k, hp⟩
        · right
          cases hh : g.keep b with
          | none => rfl
          | some q => have := hlt hh; omega
        · have hobj : ∃ o, m l = some o ∧ (∀ q, o ≠ .loop q) ∧ o ≠ .dfr := by
            rcases hi l hl with ⟨cs, r, h⟩ | ⟨ks, vs, r, h⟩ | ⟨cs, h⟩ <;> exact ⟨_, h, by simp, by simp⟩
          obtain ⟨q, hq, hnl, hnd⟩ := hobj
          obtain ⟨b', n', e1, e2⟩ := wrSame.obj l q hq
          rw [hp] at e1
          cases e1
          cases q with
          | cells cs ro =>
            obtain ⟨arr, e, f, h1, _, _, _, _, h2⟩ := e2
            cases ro with
            | true => left; simp only [if_true] at h2; rw [h2, ← h1, h]
            | false => exact .inr (by simpa using h2)
          | map ks vs ro =>
            obtain ⟨es, ck, h1, _, _, _, _, h2⟩ := e2
            cases ro with
            | true => left; simp only [if_true] at h2; rw [h2, ← h1, h]
            | false => exact .inr (by simpa using h2)
          | loop q => exact absurd rfl (hnl q)
          | dfr => exact absurd rfl hnd
          | lit cs =>
            obtain ⟨arr, e, f, h1, _, _, _, _, h2, _⟩ := e2
            exact .inr h2
          | tc T cs =>
            obtain ⟨arr, f, h1, _, _, _, _, h2, _⟩ := e2
            exact .inr h2
          | tr T cs =>
            obtain ⟨arr, f, h1, _, _, h2⟩ := e2
            exact .inr h2
      · exact .inl h
  · -- the marked store
    have mk : ∀ (ids : List Nat) (m : Sto) (l : Nat) (o : PObj), markRo m ids l = some o → ∃ o0, m l = some o0 ∧ (o = o0 ∧ (l ∉ ids ∨ (∃ q, o = .loop q) ∨ (o = .dfr ∨ ∃ T cs, o = .tc T cs ∨ o = .tr T cs) ∨ (∃ cs, o = .cells cs true) ∨ (∃ ks vs, o = .map ks vs true)) ∨ l ∈ ids ∧ ((∃ cs r, o0 = .cells cs r ∧ o = .cells cs true) ∨ (∃ ks vs r, o0 = .map ks vs r ∧ o = .map ks vs true) ∨ ∃ cs, o0 = .lit cs ∧ o = .cells cs true)) := by
      intro ids
      induction ids with
      | nil => intro m l o h; exact ⟨o, h, .inl ⟨rfl, .inl (by simp)⟩⟩
      | cons a ids ih =>
        intro m l o h
        simp only [markRo] at h
        obtain ⟨o0, h1, h2⟩ := ih _ _ _ h
        by_cases e : l = a
        · subst e
          rw [Sto.set_same] at h1
          cases hm : m l with
          | none => rw [hm] at h1; cases h1
          | some q =>
            rw [hm] at h1
            refine ⟨q, rfl, ?_⟩
            cases q with
            | cells cs r =>
              simp only [Option.some.injEq] at h1
              subst h1
              right
              refine ⟨List.mem_cons_self, .inl ⟨cs, r, rfl, ?_⟩⟩
              rcases h2 with ⟨h2, _⟩ | ⟨_, ⟨cs', r', h2, h3⟩ | ⟨ks', vs', r', h2, h3⟩ | ⟨cs', h2, h3⟩⟩
              · exact h2
              · cases h2; exact h3
              · cases h2
              · cases h2
            | map ks vs r =>
              simp only [Option.some.injEq] at h1
              subst h1
              right
              refine ⟨List.mem_cons_self, .inr (.inl ⟨ks, vs, r, rfl, ?_⟩)⟩
              rcases h2 with ⟨h2, _⟩ | ⟨_, ⟨cs', r', h2, h3⟩ | ⟨ks', vs', r', h2, h3⟩ | ⟨cs', h2, h3⟩⟩
              · exact h2
              · cases h2
              · cases h2; exact h3
              · cases h2
            | loop q =>
              simp only [Option.some.injEq] at h1
              subst h1
              left
              rcases h2 with ⟨h2, _⟩ | ⟨_, ⟨cs', r', h2, h3⟩ | ⟨ks', vs', r', h2, h3⟩ | ⟨cs', h2, h3⟩⟩
              · exact ⟨h2, .inr (.inl ⟨q, h2⟩)⟩
              · cases h2
              · cases h2
              · cases h2
            | dfr =>
              simp only [Option.some.injEq] at h1
              subst h1
              left
              rcases h2 with ⟨h2, _⟩ | ⟨_, ⟨cs', r', h2, h3⟩ | ⟨ks', vs', r', h2, h3⟩ | ⟨cs', h2, h3⟩⟩
              · exact ⟨h2, .inr (.inr (.inl (.inl h2)))⟩
              · cases h2
              · cases h2
              · cases h2
            | tc T cs =>
              simp only [Option.some.injEq] at h1
              subst h1
              left
              rcases h2 with ⟨h2, _⟩ | ⟨_, ⟨cs', r', h2, h3⟩ | ⟨ks', vs', r', h2, h3⟩ | ⟨cs', h2, h3⟩⟩
              · exact ⟨h2, .inr (.inr (.inl (.inr ⟨T, cs, .inl h2⟩)))⟩
              · cases h2
              · cases h2
              · cases h2
            | tr T cs =>
              simp only [Option.some.injEq] at h1
              subst h1
              left
              rcases h2 with ⟨h2, _⟩ | ⟨_, ⟨cs', r', h2, h3⟩ | ⟨ks', vs', r', h2, h3⟩ | ⟨cs', h2, h3⟩⟩
              · exact ⟨h2, .inr (.inr (.inl (.inr ⟨T, cs, .inr h2⟩)))⟩
              · cases h2
              · cases h2
              · cases h2
            | lit cs =>
              simp only [Option.some.injEq] at h1
              subst h1
              right
              refine ⟨List.mem_cons_self, .inr (.inr ⟨cs, rfl, ?_⟩)⟩
              rcases h2 with ⟨h2, _⟩ | ⟨_, ⟨cs', r', h2, h3⟩ | ⟨ks', vs', r', h2, h3⟩ | ⟨cs', h2, h3⟩⟩
              · exact h2
              · cases h2; exact h3
              · cases h2
              · cases h2
        · rw [Sto.set_ne _ _ e] at h1
          refine ⟨o0, h1, ?_⟩
          rcases h2 with ⟨h2, h3⟩ | ⟨h2, h3⟩
          · left
            refine ⟨h2, ?_⟩
            rcases h3 with h3 | h3
            · exact .inl (by simp [e, h3])
            · exact .inr h3
          · right
            exact ⟨List.mem_cons_of_mem _ h2, h3⟩
    refine ⟨fun l o h => ?_, fun l k o o' b n1 n2 h h' => ?_, fun b o h => ?_, fun b o h => ?_⟩
    · obtain ⟨o0, h1, h2⟩ := mk ids m l o h
      obtain ⟨b, k, e1, e2⟩ := wrSame.obj l o0 h1
      refine ⟨b, k, e1, ?_⟩
      have old : b < w.heap.size := by
        obtain ⟨b', k', e3, e4⟩ := hw.obj l o0 h1
        rw [e1] at e3
        cases e3
        exact e4.lt
      have hrF := lock_ext (P := P) wrSame p
      rcases h2 with ⟨rfl, h3⟩ | ⟨hin, h3⟩
      · -- as it was
        by_cases hpb : p b
        · -- its block is lent: it is marked
          have hin : l ∈ ids := by
            rcases hpb with h4 | ⟨l', hl', k', h4⟩
            · omega
            · have : ∃ o', m l' = some o' := by rcases hi l' hl' with ⟨_, _, h⟩ | ⟨_, _, _, h⟩ | ⟨_, h⟩ <;> exact ⟨_, h⟩
              obtain ⟨o', ho'⟩ := this
              have := hw.inj l l' o o' b k k' h1 ho' e1 h4
              subst this
              exact hl'
          have hnot : (∃ cs, o = .cells cs true) ∨ (∃ ks vs, o = .map ks vs true) := by
            rcases h3 with h3 | ⟨q, h3⟩ | h3 | h3 | h3
            · exact absurd hin h3
            · rcases hi l hin with ⟨_, _, h⟩ | ⟨_, _, _, h⟩ | ⟨_, h⟩ <;> (rw [h1] at h; cases h; cases h3)
            · rcases hi l hin with ⟨_, _, h⟩ | ⟨_, _, _, h⟩ | ⟨_, h⟩ <;> (rw [h1] at h; cases h; rcases h3 with h3 | ⟨_, _, h3 | h3⟩ <;> cases h3)
            · exact .inl h3
            · exact .inr h3
          rcases hnot with ⟨cs, rfl⟩ | ⟨ks, vs, rfl⟩
          · obtain ⟨arr, e, f, a1, a2, a3, a4, a5, a6⟩ := e2
            exact ⟨arr, e, f, a1, a2, a3, PR.mono hrF _ (RhoE.refl _) a4, a5, by simp only [if_true] at a6 ⊢; exact hrF _ _ a6⟩
          · obtain ⟨es, ck, a1, a2, a3, a4, a5, a6⟩ := e2
            exact ⟨es, ck, a1, a2, a3, PR.mono hrF _ (RhoE.refl _) a4, PR.mono hrF _ (RhoE.refl _) a5, by simp only [if_true] at a6 ⊢; exact hrF _ _ a6⟩
        · refine e2.mono (RhoE.refl _) hrF (fun hk => ?_) rfl
          show lock g.keep p w1 b = none
          unfold lock
          rw [if_neg hpb]
          exact hk
      · have hpb : p b := .inr ⟨l, hin, k, e1⟩
        have lockb : rF b = w1.heap[b]? := by simp only [rF, lock]; rw [if_pos hpb]
        rcases h3 with ⟨cs, r, rfl, rfl⟩ | ⟨ks, vs, r, rfl, rfl⟩ | ⟨cs, rfl, rfl⟩
        · obtain ⟨arr, e, f, a1, a2, a3, a4, a5, a6⟩ := e2
          exact ⟨arr, e, f, a1, a2, a3, PR.mono hrF _ (RhoE.refl _) a4, a5, by simp only [if_true]; exact lockb.trans a1⟩
        · obtain ⟨es, ck, a1, a2, a3, a4, a5, a6⟩ := e2
          exact ⟨es, ck, a1, a2, a3, PR.mono hrF _ (RhoE.refl _) a4, PR.mono hrF _ (RhoE.refl _) a5, by simp only [if_true]; exact lockb.trans a1⟩
        · obtain ⟨arr, e, f, a1, a2, a3, a4, a5, a6⟩ := e2
          exact ⟨arr, e, f, a1, a2, a3, PR.mono hrF _ (RhoE.refl _) a4, a5, by simp only [if_true]; exact lockb.trans a1⟩
    · obtain ⟨o0, h1, _⟩ := mk ids m l o h
      obtain ⟨o1, h2, _⟩ := mk ids m k o' h'
      exact hw.inj l k o0 o1 b n1 n2 h1 h2
    · simp only [rF, lock] at h ⊢
      by_cases hp : p b
      · rw [if_pos hp] at h ⊢; exact h
      · rw [if_neg hp] at h ⊢; exact hw.ro _ _ h
    · simp only [lock] at h
      split at h
      · exact h
      · exact same _ _ (hw.keep _ _ h)
  · exact VR.mono (RoE.refl _) _ (fun l r h => by cases h) hvF

mutual
theorem frz_self {D D' : Nat → Option (Bool × List V × List V × List Nat)} : ∀ (x : V) {r : V × List Nat}, frzW D x = some r → frzW D' r.1 = some (r.1, [])
  | .b _, r, h => by simp only [frzW, Option.some.injEq] at h; subst h; simp [frzW]
  | .i _ _, r, h => by simp only [frzW, Option.some.injEq] at h; subst h; simp [frzW]
  | .s _, r, h => by simp only [frzW, Option.some.injEq] at h; subst h; simp [frzW]
  | .np, r, h => by simp only [frzW, Option.some.injEq] at h; subst h; simp [frzW]
  | .p l off, r, h => by
    simp only [frzW, Option.bind_eq_some_iff] at h
    obtain ⟨q, h1, h2⟩ := h
    split at h2
    · cases h2
    · simp only [Option.some.injEq] at h2
      subst h2
      simp [frzW]
  | .rp cs, r, h => by simp only [frzW, Option.some.injEq] at h; subst h; simp [frzW]
  | .ns, r, h => by simp only [frzW, Option.some.injEq] at h; subst h; simp [frzW]
  | .sl cs n, r, h => by simp only [frzW, Option.some.injEq] at h; subst h; simp [frzW]
  | .ms l off n esz, r, h => by
    simp only [frzW, Option.bind_eq_some_iff] at h
    obtain ⟨q, h1, h2⟩ := h
    split at h2
    · simp only [Option.some.injEq] at h2
      subst h2
      simp [frzW]
    · cases h2
  | .nm, r, h => by simp only [frzW, Option.some.injEq] at h; subst h; simp [frzW]
  | .mp l, r, h => by
    simp only [frzW, Option.bind_eq_some_iff] at h
    obtain ⟨q, h1, h2⟩ := h
    split at h2
    · simp only [Option.some.injEq] at h2
      subst h2
      simp [frzW]
    · cases h2
  | .rm ks vs, r, h => by simp only [frzW, Option.some.injEq] at h; subst h; simp [frzW]
  | .nf, r, h => by simp only [frzW, Option.some.injEq] at h; subst h; simp [frzW]
  | .fn f a c, r, h => by
    simp only [frzW] at h
    split at h
    · simp only [Option.bind_eq_some_iff, Option.some.injEq] at h
      obtain ⟨x, h1, y, h2, rfl⟩ := h
      simp [frzW, frzL_self (D' := D') a h1, frzL_self (D' := D') c h2]
    · cases h
  | .ni, r, h => by simp only [frzW, Option.some.injEq] at h; subst h; simp [frzW]
  | .fc t x, r, h => by
    simp only [frzW, Option.bind_eq_some_iff, Option.some.injEq] at h
    obtain ⟨y, h1, rfl⟩ := h
    simp [frzW, frz_self (D' := D') x h1]
  | .ag cs, r, h => by
    simp only [frzW, Option.bind_eq_some_iff, Option.some.injEq] at h
    obtain ⟨y, h1, rfl⟩ := h
    simp [frzW, frzL_self (D' := D') cs h1]
  | .tu cs, r, h => by
    simp only [frzW, Option.bind_eq_some_iff, Option.some.injEq] at h
    obtain ⟨y, h1, rfl⟩ := h
    simp [frzW, frzL_self (D' := D') cs h1]
  | .un, r, h => by simp only [frzW] at h; cases h
theorem frzL_self {D D' : Nat → Option (Bool × List V × List V × List Nat)} : ∀ (x : List V) {r : List V × List Nat}, frzL D x = some r → frzL D' r.1 = some (r.1, [])
  | [], r, h => by simp only [frzL, Option.some.injEq] at h; subst h; simp [frzL]
  | c :: cs, r, h => by
    simp only [frzL, Option.bind_eq_some_iff, Option.some.injEq] at h
    obtain ⟨x, h1, y, h2, rfl⟩ := h
    simp [frzL, frz_self (D' := D') c h1, frzL_self (D' := D') cs h2]
end
/-- A value, frozen where it is. -/
theorem freeze_mark {g : G} {m : Sto} {w : World} (hw : WR P g m w) {v : V} {v' : Value} (hv : VR g.ro v g.rho v') {r : V × List Nat} (hf : freeze m v = some r) :
    (r.1.scal = true → VR g.ro r.1 g.rho v') ∧ ∃ g', g'.rho = g.rho ∧ GE g g' ∧ WR P g' (markRo m r.2) w ∧ VR g'.ro r.1 g'.rho v' := by
  have hs : Seen g (lock g.ro (Lent g r.2) w) w r.2 := by
    intro l hl b k hb
    unfold lock
    rw [if_pos ⟨l, hl, k, hb⟩]
  have hz : VR (shut g r.2 w).ro r.1 (shut g r.2 w).rho v' := freeze_ok hw (lock_ext hw _) hf hs hv
  exact (closed_ok hw (freeze_there hf) (GE.refl _) (shut_wr hw r.2) (WB.refl w) hz (frz_self (D := der m DEEP) v hf)).2

theorem callFunc_run {g : Nat} {fn : Go.Func} (hf : P.funcs[g]? = some fn) (hn : fn.name ≠ "runtime.NumGoroutine") (hb : fn.body.isSome) (args : Array Value) (w : World) :
    (Go.callFunc g args).run P w = .ok (.enter g args) w := by
  have hb' : fn.body.isNone = false := by cases hh : fn.body <;> simp [hh] at hb ⊢
  simp [Go.callFunc, hf, hn, hb']
  try (intro h; rw [h] at hb; simp at hb)

theorem callM_func {g : Nat} {fn : Go.Func} (hf : P.funcs[g]? = some fn) (hn : fn.name ≠ "runtime.NumGoroutine") (hb : fn.body.isSome) (a c args : Array Value) (w : World) :
    (callM (.func (.func g) a c) args).run P w = .ok (.enter g (a ++ args ++ c)) w := by
  simp only [callM, Go.Deferred.ofValue, Go.invoke, Sem.run_bind, Sem.run_pure, Result.andThen_ok]
  exact callFunc_run hf hn hb _ w

theorem Lnk.known (lk : Lnk P C) {g : Nat} {F : PFun} (h : C.fns g = some F) : ∃ fn, P.funcs[g]? = some fn ∧ fn.name ≠ "runtime.NumGoroutine" ∧ fn.body.isSome := by
  obtain ⟨fn, p1, p2, p3⟩ := lk.fns _ _ h
  refine ⟨fn, p1, p3, ?_⟩
  simp only [compF, Option.bind_eq_some_iff] at p2
  obtain ⟨c, hc, _⟩ := p2
  simp [hc]

theorem enter_known (lk : Lnk P C) {g : Nat} {as : List V} {m : Sto} {x : Nat} {rv : Option V} {r : CR × Sto × Nat × Option V} (h : enter C n g as m x rv = some r) :
    ∃ fn, P.funcs[g]? = some fn ∧ fn.name ≠ "runtime.NumGoroutine" ∧ fn.body.isSome := by
  cases n with
  | zero => simp [enter] at h
  | succ n =>
    simp only [enter, Option.bind_eq_some_iff] at h
    obtain ⟨F1, hF1, _⟩ := h
    exact lk.known hF1

/-- A frame that is left hands on what it has. -/
theorem left_steps {g : G} {fr c : Frame} {cs : List Frame} {w : World} (hk : fr.kind = .normal) : ∀ {cr : CR}, Left P g fr w cr → Handed P g (lone fr (c :: cs) w) c cs w cr
  | .ret v, h => by
    obtain ⟨h1, h2, fn, v', h3, h4, h5⟩ := h
    exact ⟨v', h5, .one (s_return h1 h2 hk h3 h4 c)⟩
  | .pan v, h => by
    obtain ⟨h2, fn, v', h3, h4, h5⟩ := h
    exact ⟨v', h5, .one (s_raise h4 h2 h3 c)⟩

theorem Handed.steps {g : G} {m m' : Go.Machine} {fr : Frame} {cs : List Frame} {w : World} (h : Steps P m m') : ∀ {cr : CR}, Handed P g m' fr cs w cr → Handed P g m fr cs w cr
  | .ret _, k => let ⟨v', h1, h2⟩ := k; ⟨v', h1, h.trans h2⟩
  | .pan _, k => let ⟨v', h1, h2⟩ := k; ⟨v', h1, h.trans h2⟩

theorem setAll_ok {g : G} {N : Nat} : ∀ {ps : List Nat} {args : List V} {e e' : Env} {as : List Value} {tm : Array Value}, setAll e ps args = some e' → ER g e tm → N ≤ tm.size → (∀ t ∈ ps, t < N) → PR g.ro args g.rho as → args.length = as.length →
    ER g e' ((ps.zip as).foldl (fun tmps p => tmps.setIfInBounds p.1 p.2) tm) ∧ N ≤ ((ps.zip as).foldl (fun tmps p => tmps.setIfInBounds p.1 p.2) tm).size ∧ ps.length = as.length
  | [], [], e, e', as, tm, h, he, hN, hp, hv, hl => by
    simp only [setAll, Option.some.injEq] at h
    subst h
    cases as with
    | nil => exact ⟨he, hN, rfl⟩
    | cons a b => simp at hl
  | t :: ps, v :: args, e, e', as, tm, h, he, hN, hp, hv, hl => by
    simp only [setAll] at h
    obtain ⟨v', r, rfl, h2, h3⟩ := hv
    simp only [List.zip_cons_cons, List.foldl_cons]
    obtain ⟨q1, q2, q3⟩ := setAll_ok (N := N) h (he.put hN (hp t (List.mem_cons_self)) h2) (by simpa using hN) (fun k hk => hp k (List.mem_cons_of_mem _ hk)) h3 (by simpa using hl)
    exact ⟨q1, q2, by simp [q3]⟩
  | [], _ :: _, e, e', as, tm, h, _, _, _, _, _ => by simp [setAll] at h
  | _ :: _, [], e, e', as, tm, h, _, _, _, _, _ => by simp [setAll] at h

/-! What a closed call has made anew. -/
theorem lone_vr {ro ro' : Ro} {h h' : Rho} : ∀ {v : V}, v.lone = true → ∀ {a : Value}, VR ro v h a → VR ro' v h' a
  | .b _, _, _, r => by simpa only [VR] using r
  | .i _ _, _, _, r => by simpa only [VR] using r
  | .s _, _, _, r => by simpa only [VR] using r
  | .np, _, _, r => by simpa only [VR] using r
  | .ns, _, _, r => by simpa only [VR] using r
  | .nf, _, _, r => by simpa only [VR] using r
  | .ni, _, _, r => by simpa only [VR] using r
theorem lone_pr {ro ro' : Ro} {h h' : Rho} : ∀ {cs : List V}, cs.all V.lone = true → ∀ {l : List Value}, PR ro cs h l → PR ro' cs h' l
  | [], _, _, _ => by simp [PR]
  | c :: cs, hl, l, r => by
    simp only [List.all_cons, Bool.and_eq_true] at hl
    simp only [PR] at r ⊢
    obtain ⟨v, t, e, r1, r2⟩ := r
    exact ⟨v, t, e, lone_vr hl.1 r1, lone_pr hl.2 r2⟩
theorem outL_ok {m : Sto} {x : Nat} {ro ro' : Ro} {h h' : Rho} : ∀ {cs : List V} {r : List V × Option (Nat × List V)}, outL m x cs = some r → ∀ {l : List Value}, PR ro cs h l →
    (∀ p, r.2 = some p → m p.1 = some (.cells p.2 false) ∧ p.2.all V.lone = true ∧ ∃ q, h p.1 = some q) ∧ ((∀ p, r.2 = some p → h' x = h p.1) → PR ro' r.1 h' l) ∧ r.1.length = cs.length
  | [], r, e, l, hp => by
    simp only [outL, Option.some.injEq] at e
    subst e
    exact ⟨(fun p hp => by cases hp), (fun _ => by simp [PR]), rfl⟩
  | c :: cs, r, e, l, hp => by
    simp only [PR] at hp
    obtain ⟨v, t, rfl, r1, r2⟩ := hp
    unfold outL at e
    split at e
    · rename_i ll off len esz
      split at e
      · rename_i ds hm
        split at e
        · rename_i hl
          simp only [Bool.and_eq_true] at hl
          cases e
          simp only [VR] at r1
          obtain ⟨b, n, cap, e1, e2⟩ := r1
          refine ⟨fun p hp => ?_, fun hx => ?_, rfl⟩
          · cases hp
            exact ⟨hm, hl.1, _, e1⟩
          · simp only [PR, VR]
            refine ⟨_, _, rfl, ⟨b, n, cap, ?_, e2⟩, lone_pr hl.2 r2⟩
            rw [hx _ rfl]
            exact e1
        · cases e
      · cases e
    · split at e
      · rename_i hl
        simp only [Option.map_eq_some_iff] at e
        obtain ⟨p, e1, rfl⟩ := e
        obtain ⟨q1, q2, q3⟩ := outL_ok (ro' := ro') (h' := h') e1 r2
        refine ⟨q1, fun hx => ?_, by simp [q3]⟩
        simp only [PR]
        exact ⟨_, _, rfl, lone_vr hl r1, q2 hx⟩
      · cases e
theorem outV_ok {m : Sto} {x : Nat} {ro ro' : Ro} {h h' : Rho} {v : V} {r : V × Option (Nat × List V)} (e : outV m x v = some r) {a : Value} (hv : VR ro v h a) :
    (∀ p, r.2 = some p → m p.1 = some (.cells p.2 false) ∧ p.2.all V.lone = true ∧ ∃ q, h p.1 = some q) ∧ ((∀ p, r.2 = some p → h' x = h p.1) → VR ro' r.1 h' a) := by
  unfold outV at e
  split at e
  · rename_i cs
    simp only [Option.map_eq_some_iff] at e
    obtain ⟨p, e1, rfl⟩ := e
    simp only [VR] at hv
    obtain ⟨arr, rfl, e2, e3⟩ := hv
    obtain ⟨q1, q2, q3⟩ := outL_ok (ro' := ro') (h' := h') e1 e3
    refine ⟨q1, fun hx => ?_⟩
    simp only [VR]
    exact ⟨arr, rfl, q3.trans e2, q2 hx⟩
  · cases e
theorem fresh_ok {g : G} {m : Sto} {w : World} (hw : WR P g m w) {ids : List Nat} {g1 : G} {m1 : Sto} {w1 : World} (hg : GE (shut g ids w) g1) (hw1 : WR P g1 m1 w1)
    {v : V} {v' : Value} (hv : VR g1.ro v g1.rho v') {x : Nat} (hx : ∀ l, x ≤ l → g.rho l = none) {r : V × Option (Nat × List V)} (hf : outV m1 x v = some r) :
    ∃ g', GE g g' ∧ WR P g' (outM m x r.2) w1 ∧ VR g'.ro r.1 g'.rho v' ∧ ∀ l, outX x r.2 ≤ l → g'.rho l = none := by
  have same : ∀ b o, w.heap[b]? = some o → w1.heap[b]? = some o := fun b o h => hw1.keep _ _ (hg.keep _ _ h)
  have same' : ∀ b, b < w.heap.size → w1.heap[b]? = w.heap[b]? := by
    intro b hlt
    have : w.heap[b]? = some w.heap[b] := Array.getElem?_eq_getElem hlt
    rw [this]
    exact same _ _ this
  have wrSame : WR P g m w1 := ⟨fun l o h => let ⟨b, k, h1, h2⟩ := hw.obj l o h; ⟨b, k, h1, h2.mono (RhoE.refl _) (RoE.refl _) id (same' b h2.lt)⟩, hw.inj, hw.ro, fun b o h => same _ _ (hw.keep _ _ h)⟩
  obtain ⟨u, o⟩ := r
  cases o with
  | none =>
    obtain ⟨_, q2⟩ := outV_ok (ro' := g.ro) (h' := g.rho) hf hv
    exact ⟨g, GE.refl g, wrSame, q2 (fun p hp => by cases hp), hx⟩
  | some p =>
    obtain ⟨l, cs⟩ := p
    obtain ⟨q1, _⟩ := outV_ok (ro' := g.ro) (h' := g.rho) hf hv
    obtain ⟨hm, hl, ⟨b, n⟩, hb⟩ := q1 _ rfl
    obtain ⟨b', n', e1, e2⟩ := hw1.obj l _ hm
    simp only at hb
    rw [hb] at e1
    cases e1
    obtain ⟨arr, e, f, h1, h2, h3, h4, h5, h6⟩ := e2
    simp only [Bool.false_eq_true, if_false] at h6
    have hnew : w.heap[b]? = none := by
      cases hh : w.heap[b]? with
      | none => rfl
      | some q => rw [hg.keep b q hh] at h6; cases h6
    have hge : w.heap.size ≤ b := by simpa using hnew
    have hre : RhoE g.rho (fun j => if j = x then some (b, n) else g.rho j) := by
      intro j q hj
      have : j ≠ x := fun h => by rw [h, hx x (Nat.le_refl _)] at hj; cases hj
      simp only [if_neg this, hj]
    have old : ∀ k q, g.rho k = some (b, q) → ∀ o, m k = some o → False := fun k q hk o ho => by
      obtain ⟨b', n', e1, e2⟩ := hw.obj k o ho
      rw [hk] at e1
      cases e1
      have := e2.lt
      omega
    refine ⟨⟨fun j => if j = x then some (b, n) else g.rho j, g.ro, g.keep⟩, ⟨hre, RoE.refl _, RoE.refl _, fun b o h => .inl h⟩, ⟨?_, ?_, hw.ro, wrSame.keep⟩, ?_, ?_⟩
    · intro j o ho
      simp only [outM, Sto.set] at ho
      split at ho
      · rename_i hj
        cases ho
        refine ⟨b, n, by simp [hj], arr, e, f, h1, h2, h3, lone_pr hl h4, h5, ?_⟩
        simp only [Bool.false_eq_true, if_false]
        cases hh : g.keep b with
        | none => rfl
        | some q => rw [hw.keep b q hh] at hnew; cases hnew
      · rename_i hj
        obtain ⟨b', n', q1, q2⟩ := wrSame.obj j o ho
        refine ⟨b', n', by simp [hj, q1], q2.mono hre (RoE.refl _) id rfl⟩
    · intro j k o o' b1 n1 n2 hj hk rj rk
      simp only [outM, Sto.set] at hj hk
      simp only at rj rk
      by_cases ej : j = x
      · by_cases ek : k = x
        · rw [ej, ek]
        · rw [if_pos ej] at rj
          cases rj
          rw [if_neg ek] at hk rk
          exact (old k _ rk _ hk).elim
      · rw [if_neg ej] at hj rj
        by_cases ek : k = x
        · rw [if_pos ek] at rk
          cases rk
          exact (old j _ rj _ hj).elim
        · rw [if_neg ek] at hk rk
          exact hw.inj j k o o' b1 n1 n2 hj hk rj rk
    · obtain ⟨_, q2⟩ := outV_ok (ro' := g.ro) (h' := fun j => if j = x then some (b, n) else g.rho j) hf hv
      exact q2 fun p hp => by cases hp; simp [hb]
    · intro j hj
      simp only [outX] at hj
      simp only
      rw [if_neg (by omega)]
      exact hx j (by omega)

end
end Pi


/- The run of code: calls. -/
namespace Pi
open Go (IntKind TypeId FuncId Fn BinOp UnOp LoopState Value Addr World Program undef Operand Sem Result Frame Item step lone Steps step_lone_go stepG)

section
variable {P : Program} {C : Ctx} {n : Nat}

theorem recNone {g : G} {b : B} {cs : List Frame} : RecOK g b none cs := fun v hv => by cases hv

theorem csrNone {cs cs' : List Frame} {rv' : Option V} (h : CSR none cs rv' cs') : cs' = cs ∧ rv' = none := by
  rcases h with ⟨h1, h2⟩ | ⟨v, h, _⟩
  · exact ⟨h2, h1⟩
  · cases h

/-- A closed call, from its arguments to what it hands on. -/
theorem closed_call (ih : Sound P C n) {gg : Nat} {as : List V} {m : Sto} {a : List V × List Nat} (hz : freezeL m as = some a) {cr : CR} {m1 : Sto} {x1 : Nat} {rv1 : Option V}
    (he : enter C n gg a.1 (fun _ => none) 0 none = some (cr, m1, x1, rv1)) {g : G} {w : World} {args : Array Value} (hp : PR g.ro as g.rho args.toList) (hl : as.length = args.size) (hw : WR P g m w) {v : V} (hv : cr = .ret v ∨ cr = .pan v) {r : V × List Nat} (hf : freeze m1 v = some r)
    (fr : Frame) (cs : List Frame) :
    ∃ w1, WB w w1 ∧ WR P g m w1 ∧ (r.1.scal = true → Handed P g (lone (Frame.enter P gg args .normal) (fr :: cs) w) fr cs w1 (match cr with | .ret _ => .ret r.1 | .pan _ => .pan r.1)) ∧
      ∃ g', g'.rho = g.rho ∧ GE g g' ∧ WR P g' (markRo m a.2) w1 ∧ Handed P g' (lone (Frame.enter P gg args .normal) (fr :: cs) w) fr cs w1 (match cr with | .ret _ => .ret r.1 | .pan _ => .pan r.1) := by
  have hs : Seen g (lock g.ro (Lent g a.2) w) w a.2 := by
    intro l hl b k hb
    unfold lock
    rw [if_pos ⟨l, hl, k, hb⟩]
  have hp2 : PR (shut g a.2 w).ro a.1 (shut g a.2 w).rho args.toList := freezeL_ok hw (lock_ext hw _) hz hs hp
  obtain ⟨g1, w1, fr1, cs1, q1, q2, q3, q4, q5, q6, q7, q8, q9⟩ := ih.enter he (kd := .normal) (cs := fr :: cs) hp2 ((frzL_len hz).trans hl) (shut_wr hw a.2) (fun l _ => rfl) recNone
  obtain ⟨rfl, _⟩ := csrNone q5
  have key : ∀ v', VR g1.ro v g1.rho v' → _ := fun v' hv' => closed_ok hw (freezeL_there hz) q1 q2 q4 hv' hf
  rcases hv with rfl | rfl
  · have q9' := q9
    obtain ⟨z1, z2, fn, v', z3, z4, z5⟩ := q9
    obtain ⟨k1, k2, g', k3, k4, k5, k6⟩ := key v' z5
    refine ⟨w1, q4, k1, fun hsc => ?_, g', k3, k4, k5, ?_⟩
    · exact Handed.steps q6 (left_steps (cr := .ret r.1) q8 ⟨z1, z2, fn, v', z3, z4, k2 hsc⟩)
    · exact Handed.steps q6 (left_steps (cr := .ret r.1) q8 ⟨z1, z2, fn, v', z3, z4, k6⟩)
  · obtain ⟨z2, fn, v', z3, z4, z5⟩ := q9
    obtain ⟨k1, k2, g', k3, k4, k5, k6⟩ := key v' z5
    refine ⟨w1, q4, k1, fun hsc => ?_, g', k3, k4, k5, ?_⟩
    · exact Handed.steps q6 (left_steps (cr := .pan r.1) q8 ⟨z2, fn, v', z3, z4, k2 hsc⟩)
    · exact Handed.steps q6 (left_steps (cr := .pan r.1) q8 ⟨z2, fn, v', z3, z4, k6⟩)

/-- A closed call that has made what it answers anew. -/
theorem closed_fresh (ih : Sound P C n) {gg : Nat} {as : List V} {m : Sto} {a : List V × List Nat} (hz : freezeL m as = some a) {m1 : Sto} {x1 : Nat} {rv1 : Option V} {v : V}
    (he : enter C n gg a.1 (fun _ => none) 0 none = some (.ret v, m1, x1, rv1)) {g : G} {w : World} {args : Array Value} (hp : PR g.ro as g.rho args.toList) (hl : as.length = args.size) (hw : WR P g m w) {x : Nat} (hx : ∀ l, x ≤ l → g.rho l = none) {r : V × Option (Nat × List V)} (hf : outV m1 x v = some r)
    (fr : Frame) (cs : List Frame) :
    ∃ w1, WB w w1 ∧ ∃ g', GE g g' ∧ WR P g' (outM m x r.2) w1 ∧ (∀ l, outX x r.2 ≤ l → g'.rho l = none) ∧ Handed P g' (lone (Frame.enter P gg args .normal) (fr :: cs) w) fr cs w1 (.ret r.1) := by
  have hs : Seen g (lock g.ro (Lent g a.2) w) w a.2 := by
    intro l hl b k hb
    unfold lock
    rw [if_pos ⟨l, hl, k, hb⟩]
  have hp2 : PR (shut g a.2 w).ro a.1 (shut g a.2 w).rho args.toList := freezeL_ok hw (lock_ext hw _) hz hs hp
  obtain ⟨g1, w1, fr1, cs1, q1, q2, q3, q4, q5, q6, q7, q8, q9⟩ := ih.enter he (kd := .normal) (cs := fr :: cs) hp2 ((frzL_len hz).trans hl) (shut_wr hw a.2) (fun l _ => rfl) recNone
  obtain ⟨rfl, _⟩ := csrNone q5
  obtain ⟨z1, z2, fn, v', z3, z4, z5⟩ := q9
  obtain ⟨g', k3, k4, k5, k6⟩ := fresh_ok hw q1 q2 z5 hx hf
  exact ⟨w1, q4, g', k3, k4, k6, Handed.steps q6 (left_steps (cr := .ret r.1) q8 ⟨z1, z2, fn, v', z3, z4, k5⟩)⟩
/-! An open call on its own: what it has made is the caller's. -/
mutual
theorem VR.over {ro : Ro} {h h' : Rho} {x : Nat} (he : ∀ l r, x ≤ l → h l = some r → h' l = some r) : ∀ (y : V) {v : Value}, y.over x = true → VR ro y h v → VR ro y h' v
  | .b _, _, _, r => by simpa only [VR] using r
  | .i _ _, _, _, r => by simpa only [VR] using r
  | .s _, _, _, r => by simpa only [VR] using r
  | .np, _, _, r => by simpa only [VR] using r
  | .p _ _, _, ho, r => by
    simp only [VR] at *
    obtain ⟨b, n, e, e'⟩ := r
    exact ⟨b, n, he _ _ (by simpa [V.over] using ho) e, e'⟩
  | .rp _, _, _, r => by simpa only [VR] using r
  | .ns, _, _, r => by simpa only [VR] using r
  | .sl _ _, _, _, r => by simpa only [VR] using r
  | .ms _ _ _ _, _, ho, r => by
    simp only [VR] at *
    obtain ⟨b, n, cap, e, r⟩ := r
    exact ⟨b, n, cap, he _ _ (by simpa [V.over] using ho) e, r⟩
  | .nm, _, _, r => by simpa only [VR] using r
  | .mp _, _, ho, r => by
    simp only [VR] at *
    obtain ⟨b, n, e, r⟩ := r
    exact ⟨b, n, he _ _ (by simpa [V.over] using ho) e, r⟩
  | .rm _ _, _, _, r => by simpa only [VR] using r
  | .nf, _, _, r => by simpa only [VR] using r
  | .fn f a c, _, ho, r => by
    cases f with
    | func g =>
      simp only [VR] at *
      simp only [V.over, Bool.and_eq_true] at ho
      obtain ⟨f', a', c', h1, h2, h3, h4, h5, h6⟩ := r
      exact ⟨f', a', c', h1, h2, h3, h4, PR.over he a ho.1 h5, PR.over he c ho.2 h6⟩
    | _ => simp [V.over] at ho
  | .ni, _, _, r => by simpa only [VR] using r
  | .fc _ y, _, ho, r => by
    simp only [VR] at *
    obtain ⟨x', h1, h2⟩ := r
    exact ⟨x', h1, VR.over he y (by simpa [V.over] using ho) h2⟩
  | .ag cs, _, ho, r => by
    simp only [VR] at *
    obtain ⟨arr, h1, h2, h3, h4⟩ := r
    exact ⟨arr, h1, h2, h3, PR.over he cs (by simpa [V.over] using ho) h4⟩
  | .tu cs, _, ho, r => by
    simp only [VR] at *
    obtain ⟨arr, h1, h2, h3⟩ := r
    exact ⟨arr, h1, h2, PR.over he cs (by simpa [V.over] using ho) h3⟩
  | .un, _, _, r => by simp [VR]
theorem PR.over {ro : Ro} {h h' : Rho} {x : Nat} (he : ∀ l r, x ≤ l → h l = some r → h' l = some r) : ∀ (ys : List V) {l : List Value}, overL x ys = true → PR ro ys h l → PR ro ys h' l
  | [], _, _, _ => by simp [PR]
  | c :: cs, _, ho, r => by
    simp only [PR] at *
    simp only [overL, Bool.and_eq_true] at ho
    obtain ⟨v, r', h1, h2, h3⟩ := r
    exact ⟨v, r', h1, VR.over he c ho.1 h2, PR.over he cs ho.2 h3⟩
end
mutual
theorem VR.inn {ro : Ro} {h h' : Rho} {S : Nat → Bool} (he : ∀ l r, S l = true → h l = some r → h' l = some r) : ∀ (y : V) {v : Value}, y.inn S = true → VR ro y h v → VR ro y h' v
  | .b _, _, _, r => by simpa only [VR] using r
  | .i _ _, _, _, r => by simpa only [VR] using r
  | .s _, _, _, r => by simpa only [VR] using r
  | .np, _, _, r => by simpa only [VR] using r
  | .p _ _, _, ho, r => by
    simp only [VR] at *
    obtain ⟨b, n, e, e'⟩ := r
    exact ⟨b, n, he _ _ (by simpa [V.inn] using ho) e, e'⟩
  | .rp _, _, _, r => by simpa only [VR] using r
  | .ns, _, _, r => by simpa only [VR] using r
  | .sl _ _, _, _, r => by simpa only [VR] using r
  | .ms _ _ _ _, _, ho, r => by
    simp only [VR] at *
    obtain ⟨b, n, cap, e, r⟩ := r
    exact ⟨b, n, cap, he _ _ (by simpa [V.inn] using ho) e, r⟩
  | .nm, _, _, r => by simpa only [VR] using r
  | .mp _, _, ho, r => by
    simp only [VR] at *
    obtain ⟨b, n, e, r⟩ := r
    exact ⟨b, n, he _ _ (by simpa [V.inn] using ho) e, r⟩
  | .rm _ _, _, _, r => by simpa only [VR] using r
  | .nf, _, _, r => by simpa only [VR] using r
  | .fn f a c, _, ho, r => by
    cases f with
    | func g =>
      simp only [VR] at *
      simp only [V.inn, Bool.and_eq_true] at ho
      obtain ⟨f', a', c', h1, h2, h3, h4, h5, h6⟩ := r
      exact ⟨f', a', c', h1, h2, h3, h4, PR.inn he a ho.1 h5, PR.inn he c ho.2 h6⟩
    | _ => simp [V.inn] at ho
  | .ni, _, _, r => by simpa only [VR] using r
  | .fc _ y, _, ho, r => by
    simp only [VR] at *
    obtain ⟨x', h1, h2⟩ := r
    exact ⟨x', h1, VR.inn he y (by simpa [V.inn] using ho) h2⟩
  | .ag cs, _, ho, r => by
    simp only [VR] at *
    obtain ⟨arr, h1, h2, h3, h4⟩ := r
    exact ⟨arr, h1, h2, h3, PR.inn he cs (by simpa [V.inn] using ho) h4⟩
  | .tu cs, _, ho, r => by
    simp only [VR] at *
    obtain ⟨arr, h1, h2, h3⟩ := r
    exact ⟨arr, h1, h2, PR.inn he cs (by simpa [V.inn] using ho) h3⟩
  | .un, _, _, r => by simp [VR]
theorem PR.inn {ro : Ro} {h h' : Rho} {S : Nat → Bool} (he : ∀ l r, S l = true → h l = some r → h' l = some r) : ∀ (ys : List V) {l : List Value}, innL S ys = true → PR ro ys h l → PR ro ys h' l
  | [], _, _, _ => by simp [PR]
  | c :: cs, _, ho, r => by
    simp only [PR] at *
    simp only [innL, Bool.and_eq_true] at ho
    obtain ⟨v, r', h1, h2, h3⟩ := r
    exact ⟨v, r', h1, VR.inn he c ho.1 h2, PR.inn he cs ho.2 h3⟩
end
theorem app_fresh (m m1 : Sto) (x : Nat) : ∀ (k l : Nat), (m.app (freshWs m1 x k)) l = if x ≤ l ∧ l < x + k then m1 l else m l := by
  intro k
  induction k with
  | zero => intro l; rw [if_neg (by omega)]; rfl
  | succ k ih =>
    intro l
    have e : freshWs m1 x (k + 1) = freshWs m1 x k ++ [(x + k, m1 (x + k))] := by
      unfold freshWs
      rw [List.range_succ, List.map_append]; rfl
    have e2 : (m.app (freshWs m1 x (k + 1))) = (m.app (freshWs m1 x k)).set (x + k) (m1 (x + k)) := by
      rw [e]
      unfold Sto.app
      rw [List.foldl_append]; rfl
    rw [e2]
    unfold Sto.set
    by_cases h : l = x + k
    · subst h
      rw [if_pos rfl, if_pos (by omega)]
    · rw [if_neg h, ih l]
      by_cases h2 : x ≤ l ∧ l < x + k
      · rw [if_pos h2, if_pos (by omega)]
      · rw [if_neg h2, if_neg (by omega)]
theorem fresh_own {m1 : Sto} {x k l : Nat} (h : (freshWs m1 x k).all (fun p => ownO x p.2) = true) (h1 : x ≤ l) (h2 : l < x + k) : ownO x (m1 l) = true := by
  rw [List.all_eq_true] at h
  refine h (l, m1 l) ?_
  unfold freshWs
  exact List.mem_map.2 ⟨l - x, List.mem_range.2 (by omega), by rw [Nat.add_sub_cancel' h1]⟩
open Classical in
theorem fresh_call (ih : Sound P C n) {gg : Nat} {as : List V} {m : Sto} {a : List V × List Nat} (hz : freezeL m as = some a) (ha : a.2 = []) {v : V} {m1 : Sto} {x x1 : Nat} {rv1 : Option V}
    (he : enter C n gg a.1 (fun _ => none) x none = some (.ret v, m1, x1, rv1)) {g : G} {w : World} {args : Array Value} (hp : PR g.ro as g.rho args.toList) (hl : as.length = args.size) (hw : WR P g m w)
    (hx : ∀ l, x ≤ l → l < x + (x1 - x) → g.rho l = none) (hv : v.over x = true) (ho : (freshWs m1 x (x1 - x)).all (fun p => ownO x p.2) = true) (fr : Frame) (cs : List Frame) :
    ∃ g' w1, GE g g' ∧ WR P g' (m.app (freshWs m1 x (x1 - x))) w1 ∧ (∀ l, ¬(x ≤ l ∧ l < x + (x1 - x)) → g'.rho l = g.rho l) ∧ WB w w1 ∧
      Handed P g' (lone (Frame.enter P gg args .normal) (fr :: cs) w) fr cs w1 (.ret v) := by
  obtain ⟨k, hk⟩ : ∃ k, k = x1 - x := ⟨_, rfl⟩
  rw [← hk] at hx ho ⊢
  have noLent : ∀ b, ¬ Lent g [] b := by rintro b ⟨l, hl, _⟩; cases hl
  have hs : Seen g (lock g.ro (Lent g []) w) w a.2 := by rw [ha]; intro l hl; cases hl
  have hp2 : PR (shut g [] w).ro a.1 (shut g [] w).rho args.toList := freezeL_ok hw (lock_ext hw _) hz hs hp
  obtain ⟨g1, w1, fr1, cs1, q1, q2, q3, q4, q5, q6, q7, q8, q9⟩ := ih.enter he (kd := .normal) (cs := fr :: cs) hp2 ((frzL_len hz).trans hl) (shut_wr hw []) (fun l _ => rfl) recNone
  obtain ⟨rfl, _⟩ := csrNone q5
  have same : ∀ b o, w.heap[b]? = some o → w1.heap[b]? = some o := fun b o h => q2.keep _ _ (q1.keep _ _ h)
  have same' : ∀ b, b < w.heap.size → w1.heap[b]? = w.heap[b]? := by
    intro b hlt
    have : w.heap[b]? = some w.heap[b] := Array.getElem?_eq_getElem hlt
    rw [this]
    exact same _ _ this
  have hlt : ∀ {b o}, g.keep b = some o → b < w.heap.size := fun h => (Array.getElem?_eq_some_iff.1 (hw.keep _ _ h)).1
  have shro : ∀ b, (shut g [] w).ro b = g.ro b := by
    intro b
    simp only [shut, lock]
    rw [if_neg (noLent b)]
  have ext : RoE g.ro g1.ro := fun b o h => q1.ro _ _ (by rw [shro]; exact h)
  have old : ∀ b o, g1.ro b = some o → b < w.heap.size → g.ro b = some o := by
    intro b o h hb
    rcases q1.new b o h with h1 | h1
    · rw [shro] at h1; exact h1
    · simp only [shut] at h1
      rw [Array.getElem?_eq_getElem hb] at h1
      cases h1
  have newb : ∀ b, g1.keep b = none → w.heap.size ≤ b := by
    intro b h
    apply Classical.byContradiction
    intro hb
    have h1 : (shut g [] w).keep b = some (w.heap[b]'(by omega)) := by
      simp only [shut]
      exact Array.getElem?_eq_getElem (by omega)
    rw [q1.keep _ _ h1] at h
    cases h
  let rho' : Rho := fun l => if x ≤ l ∧ l < x + k then g1.rho l else g.rho l
  let keep' : Ro := fun b => if b < w.heap.size then g.keep b else g1.keep b
  have rin : ∀ l, x ≤ l ∧ l < x + k → rho' l = g1.rho l := fun l h => if_pos h
  have rout : ∀ l, ¬(x ≤ l ∧ l < x + k) → rho' l = g.rho l := fun l h => if_neg h
  have rext : RhoE g.rho rho' := by
    intro l r e
    by_cases h : x ≤ l ∧ l < x + k
    · rw [hx l h.1 h.2] at e; cases e
    · rw [rout l h]; exact e
  have rover : ∀ l r, x ≤ l → g1.rho l = some r → rho' l = some r := by
    intro l r h e
    by_cases h2 : l < x + k
    · rw [rin l ⟨h, h2⟩]; exact e
    · rw [q3 l (by omega)] at e; cases e
  have kin : ∀ b, b < w.heap.size → keep' b = g.keep b := fun b h => if_pos h
  have kout : ∀ b, ¬ b < w.heap.size → keep' b = g1.keep b := fun b h => if_neg h
  -- what is new
  have objN : ∀ l o, x ≤ l ∧ l < x + k → m1 l = some o → ∃ b n', g1.rho l = some (b, n') ∧ w.heap.size ≤ b ∧ ObR P ⟨rho', g1.ro, keep'⟩ w1 b n' o := by
    intro l o h e
    obtain ⟨b, n', e1, e2⟩ := q2.obj l o e
    have how := fresh_own ho h.1 h.2
    rw [e] at how
    cases o with
    | cells cc r =>
      cases r with
      | true => simp [ownO] at how
      | false =>
        simp only [ownO] at how
        obtain ⟨arr, e', f, z1, z2, z3, z4, z5, z6⟩ := e2
        simp only [Bool.false_eq_true, if_false] at z6
        have hb := newb b z6
        exact ⟨b, n', e1, hb, arr, e', f, z1, z2, z3, PR.over rover cc how z4, z5, by simp only [Bool.false_eq_true, if_false]; rw [kout b (by omega)]; exact z6⟩
    | map ks vs r =>
      cases r with
      | true => simp [ownO] at how
      | false =>
        simp only [ownO, Bool.and_eq_true] at how
        obtain ⟨es, ck, z1, z2, z3, z4, z5, z6⟩ := e2
        simp only [Bool.false_eq_true, if_false] at z6
        have hb := newb b z6
        exact ⟨b, n', e1, hb, es, ck, z1, z2, z3, PR.over rover ks how.1 z4, PR.over rover vs how.2 z5, by simp only [Bool.false_eq_true, if_false]; rw [kout b (by omega)]; exact z6⟩
    | loop q => simp [ownO] at how
    | dfr => simp [ownO] at how
    | lit cs => simp [ownO] at how
    | tc T cs => simp [ownO] at how
    | tr T cs => simp [ownO] at how
  have appi : ∀ l, x ≤ l ∧ l < x + k → (m.app (freshWs m1 x k)) l = m1 l := fun l h => by rw [app_fresh, if_pos h]
  have appo : ∀ l, ¬(x ≤ l ∧ l < x + k) → (m.app (freshWs m1 x k)) l = m l := fun l h => by rw [app_fresh, if_neg h]
  refine ⟨⟨rho', g1.ro, keep'⟩, w1, ⟨rext, ext, ?_, ?_⟩, ⟨?_, ?_, ?_, ?_⟩, rout, q4, ?_⟩
  · intro b o h
    show keep' b = some o
    rw [kin b (hlt h)]; exact h
  · intro b o h
    by_cases hb : b < w.heap.size
    · exact .inl (old b o h hb)
    · right
      cases hkb : g.keep b with
      | none => rfl
      | some q => exact absurd (hlt hkb) hb
  · intro l o e
    by_cases h : x ≤ l ∧ l < x + k
    · rw [appi l h] at e
      obtain ⟨b, n', e1, _, e2⟩ := objN l o h e
      exact ⟨b, n', by show rho' l = _; rw [rin l h]; exact e1, e2⟩
    · rw [appo l h] at e
      obtain ⟨b, n', e1, e2⟩ := hw.obj l o e
      exact ⟨b, n', by show rho' l = _; rw [rout l h]; exact e1, e2.mono rext ext (fun hn => by show keep' b = none; rw [kin b e2.lt]; exact hn) (same' b e2.lt)⟩
  · intro l j o o' b n1 n2 e1 e2 e3 e4
    by_cases h : x ≤ l ∧ l < x + k <;> by_cases h' : x ≤ j ∧ j < x + k
    · rw [appi l h] at e1
      rw [appi j h'] at e2
      have e3' : rho' l = _ := e3
      have e4' : rho' j = _ := e4
      rw [rin l h] at e3'
      rw [rin j h'] at e4'
      exact q2.inj l j o o' b n1 n2 e1 e2 e3' e4'
    · rw [appi l h] at e1
      rw [appo j h'] at e2
      have e3' : rho' l = _ := e3
      have e4' : rho' j = _ := e4
      rw [rin l h] at e3'
      rw [rout j h'] at e4'
      obtain ⟨b1, n3, y1, y2, _⟩ := objN l o h e1
      obtain ⟨b2, n4, y3, y4⟩ := hw.obj j o' e2
      rw [e3'] at y1
      rw [e4'] at y3
      cases y1
      cases y3
      have := y4.lt
      omega
    · rw [appo l h] at e1
      rw [appi j h'] at e2
      have e3' : rho' l = _ := e3
      have e4' : rho' j = _ := e4
      rw [rout l h] at e3'
      rw [rin j h'] at e4'
      obtain ⟨b1, n3, y1, y2, _⟩ := objN j o' h' e2
      obtain ⟨b2, n4, y3, y4⟩ := hw.obj l o e1
      rw [e4'] at y1
      rw [e3'] at y3
      cases y1
      cases y3
      have := y4.lt
      omega
    · rw [appo l h] at e1
      rw [appo j h'] at e2
      have e3' : rho' l = _ := e3
      have e4' : rho' j = _ := e4
      rw [rout l h] at e3'
      rw [rout j h'] at e4'
      exact hw.inj l j o o' b n1 n2 e1 e2 e3' e4'
  · intro b o h
    show keep' b = some o
    by_cases hb : b < w.heap.size
    · rw [kin b hb]; exact hw.ro _ _ (old b o h hb)
    · rw [kout b hb]; exact q2.ro _ _ h
  · intro b o h
    have h' : keep' b = some o := h
    by_cases hb : b < w.heap.size
    · rw [kin b hb] at h'
      exact same _ _ (hw.keep _ _ h')
    · rw [kout b hb] at h'
      exact q2.keep _ _ h'
  · obtain ⟨z1, z2, fn, v', z3, z4, z5⟩ := q9
    exact Handed.steps q6 (left_steps (cr := .ret v) q8 ⟨z1, z2, fn, v', z3, z4, VR.over rover v hv z5⟩)

/-! An open call that has some things to itself. -/
noncomputable def part (g : G) (R : List Nat) (w : World) : G := ⟨fun l => if R.contains l then g.rho l else none, g.ro, fun b => open Classical in if Lent g R b then g.keep b else w.heap[b]?⟩
theorem only_at {m : Sto} {R : List Nat} {l : Nat} {o : PObj} (h : m.only R l = some o) : l ∈ R ∧ m l = some o := by
  unfold Sto.only at h
  split at h
  · rename_i hc
    exact ⟨by simpa using hc, h⟩
  · cases h
theorem part_rho {g : G} {R : List Nat} {w : World} {l : Nat} (h : R.contains l = true) : (part g R w).rho l = g.rho l := if_pos h
theorem part_wr {g : G} {m : Sto} {w : World} (hw : WR P g m w) {R : List Nat} (hO : ∀ l ∈ R, innO (fun l => R.contains l) (m l) = true) : WR P (part g R w) (m.only R) w := by
  have he : ∀ l r, R.contains l = true → g.rho l = some r → (part g R w).rho l = some r := fun l r h e => by rw [part_rho h]; exact e
  have kp : ∀ {l b n}, l ∈ R → g.rho l = some (b, n) → g.keep b = none → (part g R w).keep b = none := fun {l b n} h e hk => by
    simp only [part]
    rw [if_pos ⟨l, h, n, e⟩]
    exact hk
  refine ⟨?_, ?_, ?_, ?_⟩
  · intro l o e
    obtain ⟨hl, e'⟩ := only_at e
    obtain ⟨b, n, e1, e2⟩ := hw.obj l o e'
    have hc : R.contains l = true := by simpa using hl
    have how := hO l hl
    rw [e'] at how
    refine ⟨b, n, he l _ hc e1, ?_⟩
    cases o with
    | cells cc r =>
      cases r with
      | true => simp [innO] at how
      | false =>
        simp only [innO] at how
        obtain ⟨arr, e', f, z1, z2, z3, z4, z5, z6⟩ := e2
        simp only [Bool.false_eq_true, if_false] at z6
        exact ⟨arr, e', f, z1, z2, z3, PR.inn he cc how z4, z5, by simp only [Bool.false_eq_true, if_false]; exact kp hl e1 z6⟩
    | map ks vs r =>
      cases r with
      | true => simp [innO] at how
      | false =>
        simp only [innO, Bool.and_eq_true] at how
        obtain ⟨es, ck, z1, z2, z3, z4, z5, z6⟩ := e2
        simp only [Bool.false_eq_true, if_false] at z6
        exact ⟨es, ck, z1, z2, z3, PR.inn he ks how.1 z4, PR.inn he vs how.2 z5, by simp only [Bool.false_eq_true, if_false]; exact kp hl e1 z6⟩
    | loop q => simp [innO] at how
    | dfr => simp [innO] at how
    | lit cs => simp [innO] at how
    | tc T cs => simp [innO] at how
    | tr T cs => simp [innO] at how
  · intro l j o o' b n1 n2 e1 e2 e3 e4
    obtain ⟨h1, e1'⟩ := only_at e1
    obtain ⟨h2, e2'⟩ := only_at e2
    rw [part_rho (by simpa using h1)] at e3
    rw [part_rho (by simpa using h2)] at e4
    exact hw.inj l j o o' b n1 n2 e1' e2' e3 e4
  · intro b o h
    have h' : g.ro b = some o := h
    simp only [part]
    split
    · exact hw.ro _ _ h'
    · exact hw.keep _ _ (hw.ro _ _ h')
  · intro b o h
    simp only [part] at h
    split at h
    · exact hw.keep _ _ h
    · exact h
theorem app_map (m m1 : Sto) (R : List Nat) : ∀ l, (m.app (R.map fun l => (l, m1 l))) l = if R.contains l = true then m1 l else m l := by
  induction R generalizing m with
  | nil => intro l; simp [Sto.app]
  | cons a r ih =>
    intro l
    have e : (m.app ((a :: r).map fun l => (l, m1 l))) = ((m.set a (m1 a)).app (r.map fun l => (l, m1 l))) := rfl
    rw [e, ih]
    unfold Sto.set
    by_cases h : l = a
    · subst h; simp
    · simp [h]
theorem app_two (m : Sto) (a b : Ws) : m.app (a ++ b) = (m.app a).app b := by
  unfold Sto.app
  rw [List.foldl_append]
open Classical in
theorem reach_call (ih : Sound P C n) {gg : Nat} {as : List V} {m : Sto} {R : List Nat} {cr : CR} {m1 : Sto} {x x1 : Nat} {rv1 : Option V} (hth : ∀ l ∈ R, ∃ o, m l = some o) (hok : reachOK as R m x = true)
    (he : enter C n gg as (m.only R) x none = some (cr, m1, x1, rv1)) {g : G} {w : World} {args : Array Value} (hp : PR g.ro as g.rho args.toList) (hl : as.length = args.size) (hw : WR P g m w)
    (hx : ∀ l, x ≤ l → l < x + (x1 - x) → g.rho l = none) (hv : cr.val.inn (orNew R x) = true) (hoR : ∀ l ∈ R, innO (orNew R x) (m1 l) = true) (ho : (freshWs m1 x (x1 - x)).all (fun p => innO (orNew R x) p.2) = true) (fr : Frame) (cs : List Frame) :
    ∃ g' w1, GE g g' ∧ WR P g' (m.app ((R.map fun l => (l, m1 l)) ++ freshWs m1 x (x1 - x))) w1 ∧ (∀ l, ¬(x ≤ l ∧ l < x + (x1 - x)) → g'.rho l = g.rho l) ∧ WB w w1 ∧
      Handed P g' (lone (Frame.enter P gg args .normal) (fr :: cs) w) fr cs w1 cr := by
  obtain ⟨k, hk⟩ : ∃ k, k = x1 - x := ⟨_, rfl⟩
  rw [← hk] at hx ho ⊢
  unfold reachOK at hok
  simp only [Bool.and_eq_true, List.all_eq_true, decide_eq_true_eq] at hok
  obtain ⟨hin, hR⟩ := hok
  have hep : ∀ l r, R.contains l = true → g.rho l = some r → (part g R w).rho l = some r := fun l r h e => by rw [part_rho h]; exact e
  have hp2 : PR (part g R w).ro as (part g R w).rho args.toList := PR.inn hep as hin hp
  have hpw := part_wr hw (R := R) fun l hl => (hR l hl).2
  obtain ⟨g1, w1, fr1, cs1, q1, q2, q3, q4, q5, q6, q7, q8, q9⟩ := ih.enter he (kd := .normal) (cs := fr :: cs) hp2 hl hpw (fun l hl => by
    have hn : ¬ R.contains l = true := fun hc => by have := (hR l (by simpa using hc)).1; omega
    exact if_neg hn) recNone
  obtain ⟨rfl, _⟩ := csrNone q5
  have hlt : ∀ {b o}, g.keep b = some o → b < w.heap.size := fun h => (Array.getElem?_eq_some_iff.1 (hw.keep _ _ h)).1
  have pkL : ∀ {b}, Lent g R b → (part g R w).keep b = g.keep b := fun h => by simp only [part]; rw [if_pos h]
  have pkN : ∀ {b}, ¬ Lent g R b → (part g R w).keep b = w.heap[b]? := fun h => by simp only [part]; rw [if_neg h]
  have same' : ∀ b, b < w.heap.size → ¬ Lent g R b → w1.heap[b]? = w.heap[b]? := by
    intro b hlt hn
    have e : w.heap[b]? = some w.heap[b] := Array.getElem?_eq_getElem hlt
    rw [e]
    exact q2.keep _ _ (q1.keep _ _ (by rw [pkN hn]; exact e))
  have ext : RoE g.ro g1.ro := fun b o h => q1.ro _ _ h
  have newb : ∀ b, g1.keep b = none → Lent g R b ∨ w.heap.size ≤ b := by
    intro b h
    by_cases hL : Lent g R b
    · exact .inl hL
    · right
      apply Classical.byContradiction
      intro hb
      have h1 : (part g R w).keep b = some (w.heap[b]'(by omega)) := by
        rw [pkN hL]
        exact Array.getElem?_eq_getElem (by omega)
      rw [q1.keep _ _ h1] at h
      cases h
  let rho' : Rho := fun l => if x ≤ l ∧ l < x + k then g1.rho l else g.rho l
  let keep' : Ro := fun b => if b < w.heap.size ∧ ¬ Lent g R b then g.keep b else g1.keep b
  have rin : ∀ l, x ≤ l ∧ l < x + k → rho' l = g1.rho l := fun l h => if_pos h
  have rout : ∀ l, ¬(x ≤ l ∧ l < x + k) → rho' l = g.rho l := fun l h => if_neg h
  have rext : RhoE g.rho rho' := by
    intro l r e
    by_cases h : x ≤ l ∧ l < x + k
    · rw [hx l h.1 h.2] at e; cases e
    · rw [rout l h]; exact e
  have hrR : ∀ l, l ∈ R → ∃ r, g.rho l = some r ∧ g1.rho l = some r := fun l hl => by
    obtain ⟨o, ho⟩ := hth l hl
    obtain ⟨b, n, e1, _⟩ := hw.obj l o ho
    exact ⟨_, e1, q1.rho _ _ (hep l _ (by simpa using hl) e1)⟩
  have rR : ∀ l, l ∈ R → rho' l = g1.rho l := fun l hl => by
    obtain ⟨r, h1, h2⟩ := hrR l hl
    have := (hR l hl).1
    rw [rout l (by omega), h1, h2]
  have rover : ∀ l r, orNew R x l = true → g1.rho l = some r → rho' l = some r := by
    intro l r h e
    simp only [orNew, Bool.or_eq_true, decide_eq_true_eq] at h
    rcases h with h | h
    · rw [rR l (by simpa using h)]; exact e
    · by_cases h2 : l < x + k
      · rw [rin l ⟨h, h2⟩]; exact e
      · rw [q3 l (by omega)] at e; cases e
  have kin : ∀ b, b < w.heap.size → ¬ Lent g R b → keep' b = g.keep b := fun b h h' => if_pos ⟨h, h'⟩
  have kout : ∀ b, (Lent g R b ∨ w.heap.size ≤ b) → keep' b = g1.keep b := fun b h => if_neg (fun hh => by
    rcases h with h | h
    · exact hh.2 h
    · omega)
  -- what it had, and what is new
  let Mine : Nat → Prop := fun l => (x ≤ l ∧ l < x + k) ∨ l ∈ R
  have rM : ∀ l, Mine l → rho' l = g1.rho l := fun l h => by
    rcases h with h | h
    · exact rin l h
    · exact rR l h
  have objN : ∀ l o, Mine l → m1 l = some o → ∃ b n', g1.rho l = some (b, n') ∧ (Lent g R b ∨ w.heap.size ≤ b) ∧ ObR P ⟨rho', g1.ro, keep'⟩ w1 b n' o := by
    intro l o h e
    obtain ⟨b, n', e1, e2⟩ := q2.obj l o e
    have how : innO (orNew R x) (m1 l) = true := by
      rcases h with h | h
      · rw [List.all_eq_true] at ho
        refine ho (l, m1 l) ?_
        unfold freshWs
        exact List.mem_map.2 ⟨l - x, List.mem_range.2 (by omega), by rw [Nat.add_sub_cancel' h.1]⟩
      · exact hoR l h
    rw [e] at how
    cases o with
    | cells cc r =>
      cases r with
      | true => simp [innO] at how
      | false =>
        simp only [innO] at how
        obtain ⟨arr, e', f, z1, z2, z3, z4, z5, z6⟩ := e2
        simp only [Bool.false_eq_true, if_false] at z6
        have hb := newb b z6
        exact ⟨b, n', e1, hb, arr, e', f, z1, z2, z3, PR.inn rover cc how z4, z5, by simp only [Bool.false_eq_true, if_false]; rw [kout b hb]; exact z6⟩
    | map ks vs r =>
      cases r with
      | true => simp [innO] at how
      | false =>
        simp only [innO, Bool.and_eq_true] at how
        obtain ⟨es, ck, z1, z2, z3, z4, z5, z6⟩ := e2
        simp only [Bool.false_eq_true, if_false] at z6
        have hb := newb b z6
        exact ⟨b, n', e1, hb, es, ck, z1, z2, z3, PR.inn rover ks how.1 z4, PR.inn rover vs how.2 z5, by simp only [Bool.false_eq_true, if_false]; rw [kout b hb]; exact z6⟩
    | loop q => simp [innO] at how
    | dfr => simp [innO] at how
    | lit cs => simp [innO] at how
    | tc T cs => simp [innO] at how
    | tr T cs => simp [innO] at how
  have appA : ∀ l, (m.app ((R.map fun l => (l, m1 l)) ++ freshWs m1 x k)) l = if x ≤ l ∧ l < x + k then m1 l else if R.contains l = true then m1 l else m l := fun l => by
    rw [app_two, app_fresh, app_map]
  have appi : ∀ l, Mine l → (m.app ((R.map fun l => (l, m1 l)) ++ freshWs m1 x k)) l = m1 l := fun l h => by
    rw [appA]
    rcases h with h | h
    · rw [if_pos h]
    · rw [if_pos (by simpa using h : R.contains l = true)]
      split <;> rfl
  have appo : ∀ l, ¬ Mine l → (m.app ((R.map fun l => (l, m1 l)) ++ freshWs m1 x k)) l = m l := fun l h => by
    rw [appA, if_neg (fun hh => h (.inl hh)), if_neg (fun hh => h (.inr (by simpa using hh)))]
  have outB : ∀ {l o b n'}, ¬ Mine l → m l = some o → g.rho l = some (b, n') → ObR P g w b n' o → b < w.heap.size ∧ ¬ Lent g R b := by
    intro l o b n' h e e1 e2
    refine ⟨e2.lt, ?_⟩
    rintro ⟨j, hj, n2, e3⟩
    obtain ⟨o', ho'⟩ := hth j hj
    have := hw.inj l j o o' b n' n2 e ho' e1 e3
    subst this
    exact h (.inr hj)
  have rO : ∀ l, ¬ Mine l → rho' l = g.rho l := fun l h => rout l (fun hh => h (.inl hh))
  refine ⟨⟨rho', g1.ro, keep'⟩, w1, ⟨rext, ext, ?_, ?_⟩, ⟨?_, ?_, ?_, ?_⟩, rout, q4, ?_⟩
  · intro b o h
    show keep' b = some o
    by_cases hL : Lent g R b
    · rw [kout b (.inl hL)]
      exact q1.keep _ _ (by rw [pkL hL]; exact h)
    · rw [kin b (hlt h) hL]; exact h
  · intro b o h
    rcases q1.new b o h with h1 | h1
    · exact .inl h1
    · right
      by_cases hL : Lent g R b
      · rw [pkL hL] at h1; exact h1
      · rw [pkN hL] at h1
        cases hkb : g.keep b with
        | none => rfl
        | some q =>
          have := hlt hkb
          rw [Array.getElem?_eq_getElem this] at h1
          cases h1
  · intro l o e
    by_cases h : Mine l
    · rw [appi l h] at e
      obtain ⟨b, n', e1, _, e2⟩ := objN l o h e
      exact ⟨b, n', by show rho' l = _; rw [rM l h]; exact e1, e2⟩
    · rw [appo l h] at e
      obtain ⟨b, n', e1, e2⟩ := hw.obj l o e
      obtain ⟨hb, hL⟩ := outB h e e1 e2
      exact ⟨b, n', by show rho' l = _; rw [rO l h]; exact e1, e2.mono rext ext (fun hn => by show keep' b = none; rw [kin b hb hL]; exact hn) (same' b hb hL)⟩
  · intro l j o o' b n1 n2 e1 e2 e3 e4
    have e3' : rho' l = _ := e3
    have e4' : rho' j = _ := e4
    by_cases h : Mine l <;> by_cases h' : Mine j
    · rw [appi l h] at e1
      rw [appi j h'] at e2
      rw [rM l h] at e3'
      rw [rM j h'] at e4'
      exact q2.inj l j o o' b n1 n2 e1 e2 e3' e4'
    · rw [appi l h] at e1
      rw [appo j h'] at e2
      rw [rM l h] at e3'
      rw [rO j h'] at e4'
      obtain ⟨b1, n3, y1, y2, _⟩ := objN l o h e1
      obtain ⟨b2, n4, y3, y4⟩ := hw.obj j o' e2
      rw [e3'] at y1
      cases y1
      have y5 := outB h' e2 y3 y4
      rw [e4'] at y3
      cases y3
      rcases y2 with y2 | y2
      · exact absurd y2 y5.2
      · have := y5.1; omega
    · rw [appo l h] at e1
      rw [appi j h'] at e2
      rw [rO l h] at e3'
      rw [rM j h'] at e4'
      obtain ⟨b1, n3, y1, y2, _⟩ := objN j o' h' e2
      obtain ⟨b2, n4, y3, y4⟩ := hw.obj l o e1
      rw [e4'] at y1
      cases y1
      have y5 := outB h e1 y3 y4
      rw [e3'] at y3
      cases y3
      rcases y2 with y2 | y2
      · exact absurd y2 y5.2
      · have := y5.1; omega
    · rw [appo l h] at e1
      rw [appo j h'] at e2
      rw [rO l h] at e3'
      rw [rO j h'] at e4'
      exact hw.inj l j o o' b n1 n2 e1 e2 e3' e4'
  · intro b o h
    show keep' b = some o
    by_cases hb : b < w.heap.size ∧ ¬ Lent g R b
    · rw [kin b hb.1 hb.2]
      rcases q1.new b o h with h1 | h1
      · exact hw.ro _ _ h1
      · rw [pkN hb.2, Array.getElem?_eq_getElem hb.1] at h1
        cases h1
    · have hh : Lent g R b ∨ w.heap.size ≤ b := by
        by_cases hL : Lent g R b
        · exact .inl hL
        · exact .inr (Nat.le_of_not_lt fun hlt => hb ⟨hlt, hL⟩)
      rw [kout b hh]; exact q2.ro _ _ h
  · intro b o h
    have h' : keep' b = some o := h
    by_cases hb : b < w.heap.size ∧ ¬ Lent g R b
    · rw [kin b hb.1 hb.2] at h'
      rw [same' b hb.1 hb.2]
      exact hw.keep _ _ h'
    · have hh : Lent g R b ∨ w.heap.size ≤ b := by
        by_cases hL : Lent g R b
        · exact .inl hL
        · exact .inr (Nat.le_of_not_lt fun hlt => hb ⟨hlt, hL⟩)
      rw [kout b hh] at h'
      exact q2.keep _ _ h'
  · cases cr with
    | ret v =>
      obtain ⟨z1, z2, fn, v', z3, z4, z5⟩ := q9
      exact Handed.steps q6 (left_steps (cr := .ret v) q8 ⟨z1, z2, fn, v', z3, z4, VR.inn rover v hv z5⟩)
    | pan v =>
      obtain ⟨z2, fn, v', z3, z4, z5⟩ := q9
      exact Handed.steps q6 (left_steps (cr := .pan v) q8 ⟨z2, fn, v', z3, z4, VR.inn rover v hv z5⟩)

theorem WR.notThere {g : G} {m : Sto} {w : World} (h : WR P g m w) {x : Nat} (hx : g.rho x = none) : m x = none := by
  cases hm : m x with
  | none => rfl
  | some o =>
    obtain ⟨b, k, e, _⟩ := h.obj x o hm
    rw [hx] at e
    cases e

theorem call_sound (lk : Lnk P C) (ih : Sound P C n) : CallS P C (n + 1) := by
  intro f args m m' x x' cr he g w f' args' hf ha hl hw hfr
  unfold callV at he
  simp only at he
  split at he
  · -- a function
    rename_i gg first cap
    simp only [VR] at hf
    obtain ⟨f2, a', c', rfl, hfr2, e1, e2, e3, e4⟩ := hf
    replace hfr2 : f2 = .func gg := hfr2
    subst hfr2
    have hpr : PR g.ro (first ++ args ++ cap) g.rho (a' ++ args' ++ c').toList := by
      have h1 := e3.append (by simpa using e1) ha
      have h2 := h1.append (by simp; omega) e4
      simpa using h2
    have hlen : (first ++ args ++ cap).length = (a' ++ args' ++ c').size := by simp; omega
    split at he
    · rename_i h hprim
      simp only [Option.map_eq_some_iff, Prod.mk.injEq] at he
      obtain ⟨⟨v, ws⟩, h1, rfl, rfl, rfl⟩ := he
      obtain ⟨⟨fn, p1, p2, p3⟩, _, hp⟩ := lk.prim _ _ hprim
      have hrun := hp h1 hpr hlen hw (hfr x (Nat.le_refl _)) (hw.notThere (hfr x (Nat.le_refl _)))
      refine ⟨.enter gg (a' ++ args' ++ c'), callM_func p1 p2 p3 _ _ _ _, trivial, fun fr cs => ?_⟩
      obtain ⟨v', w', h', q1, q2, q3, q4, q5, q6⟩ := hrun fr cs
      refine ⟨h', w', q1, q4, fun l hl => ?_, q5, v', q3, q6⟩
      rw [q2 l (by omega)]
      exact hfr l (by omega)
    · split at he
      · -- open
        simp only [Option.bind_eq_some_iff] at he
        obtain ⟨⟨cr1, m1, x1, rv1⟩, h1, h2⟩ := he
        obtain ⟨fn, p1, p2, p3⟩ := enter_known lk h1
        refine ⟨.enter gg (a' ++ args' ++ c'), callM_func p1 p2 p3 _ _ _ _, trivial, fun fr cs => ?_⟩
        obtain ⟨g1, w1, fr1, cs1, q1, q2, q3, q4, q5, q6, q7, q8, q9⟩ := ih.enter h1 (kd := .normal) (cs := fr :: cs) hpr hlen hw hfr recNone
        obtain ⟨rfl, _⟩ := csrNone q5
        cases cr1 with
        | pan v =>
          simp only [Option.some.injEq, Prod.mk.injEq] at h2
          obtain ⟨rfl, rfl, rfl⟩ := h2
          exact ⟨g1, w1, q1, q2, q3, q4, Handed.steps q6 (left_steps q8 q9)⟩
        | ret v =>
          simp only at h2
          split at h2
          · simp only [Option.map_eq_some_iff, Prod.mk.injEq] at h2
            obtain ⟨r, h3, rfl, h4, rfl⟩ := h2
            obtain ⟨z1, z2, fn', v', z3, z4, z5⟩ := q9
            obtain ⟨k1, g2, k2, k3, k4, k5⟩ := freeze_mark q2 z5 h3
            by_cases hsc : r.1.scal = true
            · rw [if_pos hsc] at h4
              subst h4
              exact ⟨g1, w1, q1, q2, q3, q4, Handed.steps q6 (left_steps (cr := .ret r.1) q8 ⟨z1, z2, fn', v', z3, z4, k1 hsc⟩)⟩
            · rw [if_neg hsc] at h4
              subst h4
              exact ⟨g2, w1, q1.trans k3, k4, fun l hl => by rw [k2]; exact q3 l hl, q4, Handed.steps q6 (left_steps (cr := .ret r.1) q8 ⟨z1, z2, fn', v', z3, z4, k5⟩)⟩
          · simp only [Option.some.injEq, Prod.mk.injEq] at h2
            obtain ⟨rfl, rfl, rfl⟩ := h2
            exact ⟨g1, w1, q1, q2, q3, q4, Handed.steps q6 (left_steps q8 q9)⟩
      · -- closed
        rename_i a hz
        split at hz
        · cases hz
        · simp only [Option.bind_eq_some_iff] at he
          obtain ⟨⟨cr1, m1, x1, rv1⟩, h1, h2⟩ := he
          obtain ⟨fn, p1, p2, p3⟩ := enter_known lk h1
          refine ⟨.enter gg (a' ++ args' ++ c'), callM_func p1 p2 p3 _ _ _ _, trivial, fun fr cs => ?_⟩
          cases cr1 with
          | pan v =>
            simp only [Option.bind_eq_some_iff] at h2
            obtain ⟨r, h3, h4⟩ := h2
            split at h4
            · rename_i hsc
              simp only [Option.some.injEq, Prod.mk.injEq] at h4
              obtain ⟨rfl, rfl, rfl⟩ := h4
              obtain ⟨w1, k1, k2, k3, _⟩ := closed_call ih hz h1 hpr hlen hw (.inr rfl) h3 fr cs
              exact ⟨g, w1, GE.refl _, k2, hfr, k1, k3 hsc⟩
            · cases h4
          | ret v =>
            simp only at h2
            split at h2
            · simp only [Option.map_eq_some_iff, Prod.mk.injEq] at h2
              obtain ⟨r, h3, rfl, rfl, rfl⟩ := h2
              obtain ⟨w1, k1, g', k5, k6, k4, k7⟩ := closed_fresh ih hz h1 hpr hlen hw hfr h3 fr cs
              exact ⟨g', w1, k5, k6, k4, k1, k7⟩
            · simp only [Option.bind_eq_some_iff, Option.some.injEq, Prod.mk.injEq] at h2
              obtain ⟨r, h3, rfl, h4, rfl⟩ := h2
              obtain ⟨w1, k1, k2, k3, g', k4, k5, k6, k7⟩ := closed_call ih hz h1 hpr hlen hw (.inl rfl) h3 fr cs
              by_cases hsc : r.1.scal = true
              · rw [if_pos hsc] at h4
                subst h4
                exact ⟨g, w1, GE.refl _, k2, hfr, k1, k3 hsc⟩
              · rw [if_neg hsc] at h4
                subst h4
                exact ⟨g', w1, k5, k6, fun l hl => by rw [k4]; exact hfr l hl, k1, k7⟩
  · -- a round
    rename_i ll
    simp only [VR] at hf
    obtain ⟨f2, a', c', rfl, ⟨bl, kk, hrho, rfl⟩, e1, e2, _, _⟩ := hf
    have ea : a' = #[] := Array.eq_empty_of_size_eq_zero (by simpa using e1.symm)
    subst ea
    split at he
    · rename_i q hq
      split at he
      · rename_i hst
        simp only [Option.bind_eq_some_iff] at he
        obtain ⟨e, hset, ⟨xx, s1⟩, h1, h2⟩ := he
        obtain ⟨b', n', e3, lr, e4, ⟨l1, l2, ⟨N, l3, l4, l5, l6⟩, l7, l8, lfn⟩, e6⟩ := hw.obj ll _ hq
        rw [hrho] at e3
        cases e3
        obtain ⟨s_er, s_size, s_len⟩ := setAll_ok (N := N) hset l1 l3 l4 ha hl
        have hps : lr.params.size = args'.size := by
          have := congrArg List.length l2
          simp at this
          simp at s_len
          omega
        let tms : Array Value := (lr.params.zip args').foldl (fun tmps (t, a) => tmps.setIfInBounds t a) lr.tmps
        have htms : tms = (q.ps.zip args'.toList).foldl (fun tmps p => tmps.setIfInBounds p.1 p.2) lr.tmps := by
          simp only [tms]
          rw [← l2, ← Array.toList_zip, ← Array.foldl_toList]
        have hrun : (callM (.func (.yield bl) #[] c') args').run P w = .ok (.round bl lr.fn tms lr.assign lr.body) w := by
          simp [callM, Go.Deferred.ofValue, Go.invoke, Go.Instr.yield, Go.Instr.getLoop, run_getObj (P := P) e4, hps, tms]
        refine ⟨_, hrun, trivial, fun fr cs => ?_⟩
        let b0 : B := ⟨lr.fn, .normal, some bl⟩
        have hs : SR P N g b0 ⟨e, m, x, [], none, some ll⟩ tms [] (fr :: cs) w :=
          ⟨by rw [htms]; exact s_er, by rw [htms]; exact s_size, trivial, hw, hfr, recNone, ⟨bl, kk, hrho, rfl⟩, lfn⟩
        obtain ⟨g1, tm1, df1, cs1, w1, t1, q1⟩ := ih.exec l5 h1 [.beginRound, .code lr.body] hs
        cases xx with
        | nor =>
          simp only at h2
          split at h2
          · rename_i q' hq'
            split at h2
            · cases h2
            · rename_i hst'
              have hst' : q'.st = .ready := by simpa using hst'
              simp only [Option.bind_eq_some_iff] at h2
              obtain ⟨⟨z, s2⟩, h3, h4⟩ := h2
              obtain ⟨c1, _⟩ := csrNone t1.cr
              subst c1
              have hrho1 := t1.ge.rho _ _ hrho
              obtain ⟨b', n', e7, lr1, e8, ⟨m1, m2, m3, m7, m8, mfn⟩, e9⟩ := t1.sr.wr.obj ll _ hq'
              rw [hrho1] at e7
              cases e7
              have hbeg : (Go.Instr.beginRound bl).run P w1 = .ok () { w1 with heap := w1.heap.setIfInBounds bl (.loop { lr1 with state := .busy }) } := by
                have : lr1.state = .ready := m7.trans hst'
                simp [Go.Instr.beginRound, Go.Instr.getLoop, run_getObj (P := P) e8, run_setObj (P := P) e8, this]
              have hlt1 : bl < w1.heap.size := (Array.getElem?_eq_some_iff.1 e8).1
              have wr2 : WR P g1 (s1.m.set ll (some (.loop { q' with st := .busy }))) { w1 with heap := w1.heap.setIfInBounds bl (.loop { lr1 with state := .busy }) } :=
                t1.sr.wr.put hq' hrho1 e9 (fun c hc => heap_set_ne hc) ⟨{ lr1 with state := .busy }, by simp [hlt1], ⟨m1, m2, m3, rfl, m8, mfn⟩, e9⟩
              have hs2 : SR P N g1 b0 { s1 with m := s1.m.set ll (some (.loop { q' with st := .busy })) } tm1 df1 (fr :: cs) { w1 with heap := w1.heap.setIfInBounds bl (.loop { lr1 with state := .busy }) } :=
                ⟨t1.sr.er, t1.sr.size, t1.sr.dl, wr2, t1.sr.fresh, t1.sr.rc, t1.sr.rd, t1.sr.fn⟩
              obtain ⟨g2, tm2, df2, cs2, w2, t2, q2⟩ := ih.exec l6 h3 [] hs2
              have hrv1 : s1.rv = none := (csrNone t1.cr).2
              have hc2 : cs2 = fr :: cs := by
                have := t2.cr
                simp only [hrv1] at this
                exact (csrNone this).1
              subst hc2
              have toBody : Steps P (lone (frameOf P (.round bl lr.fn tms lr.assign lr.body)) (fr :: cs) w) (lone (b0.at tm1 df1 [.code lr.body]) (fr :: cs) { w1 with heap := w1.heap.setIfInBounds bl (.loop { lr1 with state := .busy }) }) :=
                Steps.trans q1 (.one (s_beginRound (b := b0) rfl hbeg))
              have ge : GE g g2 := t1.ge.trans t2.ge
              have wb : WB w w2 := t1.wb.trans ((WB.setObj _ _ _).trans t2.wb)
              have hrho2 := t2.ge.rho _ _ hrho1
              simp only at h4
              split at h4
              · cases h4
              · rename_i hds
                have hdf : df2 = [] := by
                  have h5 := t2.sr.dl
                  have h6 : s2.ds = [] := by simpa using hds
                  rw [h6] at h5
                  cases df2 with
                  | nil => rfl
                  | cons a b => exact h5.elim
                subst hdf
                -- how a round ends that does not panic
                have fin : ∀ (j : Option Go.Code) (pd : Option X) (q'' : LoopRec) (fr2 : Frame), JR pd j → s2.m ll = some (.loop q'') →
                    Steps P (lone (b0.at tm1 df1 [.code lr.body]) (fr :: cs) { w1 with heap := w1.heap.setIfInBounds bl (.loop { lr1 with state := .busy }) }) (lone fr2 (fr :: cs) w2) →
                    (∀ {v : Value} {w3 : World}, (Go.Instr.endRound bl j).run P w2 = .ok v w3 → step P (lone fr2 (fr :: cs) w2) = .next (lone (fr.finish v) cs w3)) →
                    ∃ g' w', GE g g' ∧ WR P g' (s2.m.set ll (some (.loop { q'' with st := if j.isNone then .ready else .done, pend := pd }))) w' ∧ (∀ l, s2.x ≤ l → g'.rho l = none) ∧ WB w w' ∧
                      Handed P g' (lone (frameOf P (.round bl lr.fn tms lr.assign lr.body)) (fr :: cs) w) fr cs w' (.ret (.b j.isNone)) := by
                  intro j pd q'' fr2 hj hq'' hst2 hstep
                  obtain ⟨b', n', e10, lr2, e11, ⟨n1, n2, n3, n7, n8, nfn⟩, e12⟩ := t2.sr.wr.obj ll _ hq''
                  rw [hrho2] at e10
                  cases e10
                  have hend : (Go.Instr.endRound bl j).run P w2 = .ok (.bool j.isNone) { w2 with heap := w2.heap.setIfInBounds bl (.loop { lr2 with state := if j.isNone then .ready else .done, pending := j }) } := by
                    simp [Go.Instr.endRound, Go.Instr.getLoop, run_getObj (P := P) e11, run_setObj (P := P) e11]
                  have hlt2 : bl < w2.heap.size := (Array.getElem?_eq_some_iff.1 e11).1
                  refine ⟨g2, _, ge, t2.sr.wr.put (w' := { w2 with heap := w2.heap.setIfInBounds bl (.loop { lr2 with state := if j.isNone then .ready else .done, pending := j }) }) hq'' hrho2 e12 (fun c hc => heap_set_ne hc) ⟨{ lr2 with state := if j.isNone then .ready else .done, pending := j }, by simp [hlt2], ⟨n1, n2, n3, rfl, hj, nfn⟩, e12⟩, t2.sr.fresh, wb.trans (WB.setObj _ _ _), .bool j.isNone, by simp [VR], toBody.trans (hst2.trans (.one (hstep hend)))⟩
                split at h4
                · -- panic
                  simp only [Option.some.injEq, Prod.mk.injEq] at h4
                  obtain ⟨rfl, rfl, rfl⟩ := h4
                  obtain ⟨v', k2, r1, r2⟩ := q2
                  obtain ⟨fn0, hfn0⟩ := lfn
                  exact ⟨g2, w2, ge, t2.sr.wr, t2.sr.fresh, wb, v', r1, toBody.trans (r2.trans (.one (s_raise rfl rfl (fn := fn0) hfn0 fr)))⟩
                · -- on
                  rename_i q'' hq''
                  simp only [Option.some.injEq, Prod.mk.injEq] at h4
                  obtain ⟨rfl, rfl, rfl⟩ := h4
                  exact fin none none q'' _ trivial hq'' q2 (fun h => s_endRound_nor (b := b0) rfl rfl h fr)
                · rename_i yy y oo q'' hp1 hp2 hq''
                  simp only [Option.some.injEq, Prod.mk.injEq] at h4
                  obtain ⟨rfl, rfl, rfl⟩ := h4
                  cases yy with
                  | nor => exact absurd rfl hp2
                  | pan v => exact absurd rfl (hp1 v)
                  | ret =>
                    obtain ⟨k2, r2⟩ := q2
                    exact fin (some .ret) (some .ret) q'' _ trivial hq'' r2 (fun h => s_endRound_ret (b := b0) rfl rfl h fr)
                  | exit id =>
                    obtain ⟨k2, r1, r2⟩ := q2
                    exact fin (some (.exit id)) (some (.exit id)) q'' _ rfl hq'' r2 (fun h => s_endRound_exit (b := b0) rfl rfl (r1.trans rfl) h fr)
                · cases h4
          · cases h2
        | ret => cases h2
        | exit id => cases h2
        | pan v => cases h2
      · cases he
    · cases he
  · cases he

end
end Pi


/- What an operation depends on, and what it changes. -/
namespace Pi
open Go (IntKind TypeId FuncId Fn BinOp UnOp LoopState Value Addr World Program undef Operand Sem Result Frame Item step lone Steps step_lone_go stepG)

section
variable {e e' : Env} {m m' : Sto}

theorem ev_same {x : Opd} (h : ∀ t ∈ x.tm, e' t = e t) : x.ev e' = x.ev e := by
  cases x with
  | t n => exact h n (by simp [Opd.tm])
  | c v => rfl

theorem evL_same : ∀ {l : List Opd}, (∀ t ∈ l.flatMap Opd.tm, e' t = e t) → l.map (Opd.ev e') = l.map (Opd.ev e)
  | [], _ => rfl
  | x :: r, h => by
    simp only [List.map_cons]
    have h1 : x.ev e' = x.ev e := ev_same fun t ht => h t (by simp [ht])
    have h2 := evL_same (l := r) fun t ht => h t (by simp only [List.flatMap_cons, List.mem_append]; exact .inr ht)
    rw [h1, h2]

theorem bnd_same {o : Option Opd} {d : Nat} (h : ∀ t ∈ tmO o, e' t = e t) : bnd e' o d = bnd e o d := by
  cases o with
  | none => rfl
  | some x => simp only [bnd, ev_same h]

theorem fill_same : ∀ {ps : List (Nat × Nat × Opd)} {cs : List V}, (∀ t ∈ ps.flatMap (fun p => p.2.2.tm), e' t = e t) → fill e' cs ps = fill e cs ps
  | [], _, _ => rfl
  | (off, n, x) :: r, cs, h => by
    have h1 : x.ev e' = x.ev e := ev_same fun t ht => h t (by simp [ht])
    have h2 : ∀ cs, fill e' cs r = fill e cs r := fun cs => fill_same fun t ht => h t (by simp only [List.flatMap_cons, List.mem_append]; exact .inr ht)
    simp only [fill, h1, h2]

theorem slCells_same {esz : Nat} {v : V} (h : ∀ l ∈ refOf v, m' l = m l) : slCells m' esz v = slCells m esz v := by
  cases v <;> simp only [slCells]
  rw [h _ (by simp [refOf])]
theorem apCells_same {esz : Nat} {v : V} (h : ∀ l ∈ refOf v, m' l = m l) : apCells m' esz v = apCells m esz v := by
  cases v <;> simp only [apCells] <;> exact slCells_same h
theorem lenV_same {v : V} (h : ∀ l ∈ refOf v, m' l = m l) : lenV m' v = lenV m v := by
  cases v <;> simp only [lenV]
  rw [h _ (by simp [refOf])]
theorem lenK_same {k : LK} {v : V} (h : ∀ l ∈ refOf v, m' l = m l) : lenK m' k v = lenK m k v := by
  cases k <;> cases v <;> simp only [lenK]
  rw [h _ (by simp [refOf])]

theorem ubD_same {k : UK} {x y : V} {m m' : Sto} {slot : Nat} (h : ∀ l ∈ refOf x ++ refOf y, m' l = m l) : ubD k x y m' slot = ubD k x y m slot := by
  cases k with
  | alt T z => rfl
  | pe neg => rfl
  | sd => rfl
  | apt T =>
    show aptV T x y m' slot = aptV T x y m slot
    cases x
    case ms l off len esz =>
      have e := h l (by simp [refOf])
      cases off with
      | succ k => cases y <;> rfl
      | zero =>
        match esz with
        | 0 => cases y <;> rfl
        | 1 =>
          cases y
          case s a =>
            show (if a.size = 0 then none else aptO (m' l) T l len a slot) = (if a.size = 0 then none else aptO (m l) T l len a slot)
            rw [e]
          all_goals rfl
        | k + 2 => cases y <;> rfl
    all_goals rfl
  | tu =>
    show tuV x m' = tuV x m
    cases x
    case p l off =>
      have e := h l (by simp [refOf])
      simp only [tuV, e]
    all_goals rfl
  | fu Ts =>
    show fuV Ts x m' = fuV Ts x m
    cases x
    case p l off =>
      have e := h l (by simp [refOf])
      cases off with
      | succ k => rfl
      | zero =>
        show fuO (m' l) Ts l = fuO (m l) Ts l
        rw [e]
    all_goals rfl
  | us T =>
    show usV T x y m' = usV T x y m
    cases x
    case p l off =>
      have e := h l (by simp [refOf])
      cases off with
      | succ k => cases y <;> rfl
      | zero =>
        cases y
        case i k n =>
          cases k
          case i64 =>
            show usO (m' l) T l n = usO (m l) T l n
            rw [e]
          all_goals rfl
        all_goals rfl
    all_goals rfl
theorem ubD_ws {k : UK} {x y v : V} {m : Sto} {slot : Nat} {ws : Ws} (h : ubD k x y m slot = some (v, ws)) : ∀ q ∈ ws, q.1 = slot ∨ q.1 ∈ refOf x ++ refOf y := by
  intro q hq
  cases k with
  | alt T z =>
    simp only [ubD, Option.some.injEq, Prod.mk.injEq] at h
    obtain ⟨_, rfl⟩ := h
    simp only [List.mem_singleton] at hq
    subst hq
    exact .inl rfl
  | pe neg =>
    simp only [ubD, Option.map_eq_some_iff, Prod.mk.injEq] at h
    obtain ⟨_, _, _, rfl⟩ := h
    cases hq
  | sd =>
    simp only [ubD, sdV] at h
    split at h
    · split at h
      · simp only [Option.some.injEq, Prod.mk.injEq] at h
        obtain ⟨_, rfl⟩ := h
        cases hq
      · cases h
    · cases h
  | apt T =>
    simp only [ubD, aptV] at h
    split at h
    · split at h
      · cases h
      · split at h
        · split at h
          · simp only [Option.some.injEq, Prod.mk.injEq] at h
            obtain ⟨_, rfl⟩ := h
            simp only [List.mem_singleton] at hq
            subst hq
            exact .inl rfl
          · cases h
        · unfold aptO at h
          split at h
          · split at h
            · simp only [Option.some.injEq, Prod.mk.injEq] at h
              obtain ⟨_, rfl⟩ := h
              simp only [List.mem_cons, List.not_mem_nil, or_false] at hq
              rcases hq with rfl | rfl
              · exact .inr (by simp [refOf])
              · exact .inl rfl
            · cases h
          · cases h
        · cases h
    · cases h
  | tu =>
    simp only [ubD, tuV] at h
    split at h
    · unfold tuO at h
      split at h
      · split at h
        · simp only [Option.some.injEq, Prod.mk.injEq] at h
          obtain ⟨_, rfl⟩ := h
          cases hq
        · cases h
      · cases h
    · cases h
  | fu Ts =>
    simp only [ubD, fuV] at h
    split at h
    · unfold fuO at h
      split at h
      · split at h
        · simp only [Option.some.injEq, Prod.mk.injEq] at h
          obtain ⟨_, rfl⟩ := h
          cases hq
        · cases h
      · cases h
    · cases h
  | us T =>
    simp only [ubD, usV] at h
    split at h
    · unfold usO at h
      split at h
      · split at h
        · simp only [Option.map_eq_some_iff, Prod.mk.injEq] at h
          obtain ⟨_, _, _, rfl⟩ := h
          simp only [List.mem_singleton] at hq
          subst hq
          exact .inr (by simp [refOf])
        · cases h
      · split at h
        · simp only [Option.map_eq_some_iff, Prod.mk.injEq] at h
          obtain ⟨_, _, _, rfl⟩ := h
          simp only [List.mem_singleton] at hq
          subst hq
          exact .inr (by simp [refOf])
        · cases h
      · cases h
    · cases h
theorem opD_same {o : POp} {slot : Nat} (he : ∀ t ∈ o.reads, e' t = e t) (hm : ∀ l ∈ o.touch e, m' l = m l) : opD o e' m' slot = opD o e m slot ∧ o.touch e' = o.touch e := by
  cases o with
  | mv x => simp only [opD, POp.touch, ev_same he, and_self]
  | bx x => simp only [opD, POp.touch, ev_same he, and_self]
  | un op x => simp only [opD, POp.touch, ev_same he, and_self]
  | nc x => simp only [opD, POp.touch, ev_same he, and_self]
  | ci k x => simp only [opD, POp.touch, ev_same he, and_self]
  | csb x => simp only [opD, POp.touch, ev_same he, and_self]
  | ub k x y =>
    have h1 : x.ev e' = x.ev e := ev_same fun t ht => he t (by simp [POp.reads, ht])
    have h2 : y.ev e' = y.ev e := ev_same fun t ht => he t (by simp [POp.reads, ht])
    simp only [opD, POp.touch, h1, h2, and_true]
    exact ubD_same hm
  | mi t x => simp only [opD, POp.touch, ev_same he, and_self]
  | fa off x => simp only [opD, POp.touch, ev_same he, and_self]
  | fe ag off n x => simp only [opD, POp.touch, ev_same he, and_self]
  | ta t z x ok => simp only [opD, POp.touch, ev_same he, and_self]
  | ex x i => simp only [opD, POp.touch, ev_same he, and_self]
  | pa x => simp only [opD, POp.touch, and_self]
  | al z => exact ⟨rfl, rfl⟩
  | mm => exact ⟨rfl, rfl⟩
  | rc => exact ⟨rfl, rfl⟩
  | no => exact ⟨rfl, rfl⟩
  | ca f l => exact ⟨rfl, rfl⟩
  | df f l => exact ⟨rfl, rfl⟩
  | pk c a b =>
    have h1 : c.ev e' = c.ev e := ev_same fun t ht => he t (by simp [POp.reads, ht])
    have h2 : a.ev e' = a.ev e := ev_same fun t ht => he t (by simp [POp.reads, ht])
    have h3 : b.ev e' = b.ev e := ev_same fun t ht => he t (by simp [POp.reads, ht])
    simp only [opD, POp.touch, h1, h2, h3, and_self]
  | bd z ps => simp only [opD, POp.touch, fill_same he, and_self]
  | bs esz n z ps => simp only [opD, POp.touch, fill_same he, and_self]
  | mf f a c =>
    have h1 := evL_same (l := a) fun t ht => he t (by simp only [POp.reads, List.mem_append]; exact .inl ht)
    have h2 := evL_same (l := c) fun t ht => he t (by simp only [POp.reads, List.mem_append]; exact .inr ht)
    simp only [opD, POp.touch, h1, h2, and_self]
  | mx l =>
    have h1 := evL_same (l := l) he
    cases l with
    | nil => exact ⟨rfl, rfl⟩
    | cons x r => simp only [List.map_cons, List.cons.injEq] at h1; simp only [opD, POp.touch, h1.1, h1.2, and_self]
  | mn l =>
    have h1 := evL_same (l := l) he
    cases l with
    | nil => exact ⟨rfl, rfl⟩
    | cons x r => simp only [List.map_cons, List.cons.injEq] at h1; simp only [opD, POp.touch, h1.1, h1.2, and_self]
  | bi op x y =>
    have h1 : x.ev e' = x.ev e := ev_same fun t ht => he t (by simp [POp.reads, ht])
    have h2 : y.ev e' = y.ev e := ev_same fun t ht => he t (by simp [POp.reads, ht])
    simp only [opD, POp.touch, h1, h2, and_self]
  | eq neg q x y =>
    have h1 : x.ev e' = x.ev e := ev_same fun t ht => he t (by simp [POp.reads, ht])
    have h2 : y.ev e' = y.ev e := ev_same fun t ht => he t (by simp [POp.reads, ht])
    simp only [opD, POp.touch, h1, h2, and_self]
  | mk esz z x y =>
    have h1 : x.ev e' = x.ev e := ev_same fun t ht => he t (by simp [POp.reads, ht])
    have h2 : y.ev e' = y.ev e := ev_same fun t ht => he t (by simp [POp.reads, ht])
    simp only [opD, POp.touch, h1, h2, and_self]
  | an esz z x y =>
    have h1 : x.ev e' = x.ev e := ev_same fun t ht => he t (by simp [POp.reads, ht])
    have h2 : y.ev e' = y.ev e := ev_same fun t ht => he t (by simp [POp.reads, ht])
    simp only [opD, POp.touch, h1, h2, and_self]
  | ia esz x y =>
    have h1 : x.ev e' = x.ev e := ev_same fun t ht => he t (by simp [POp.reads, ht])
    have h2 : y.ev e' = y.ev e := ev_same fun t ht => he t (by simp [POp.reads, ht])
    simp only [opD, POp.touch, h1, h2, and_self]
  | iz len esz x y =>
    have h1 : x.ev e' = x.ev e := ev_same fun t ht => he t (by simp [POp.reads, ht])
    have h2 : y.ev e' = y.ev e := ev_same fun t ht => he t (by simp [POp.reads, ht])
    simp only [opD, POp.touch, h1, h2, and_self]
  | xa ag len esz x y =>
    have h1 : x.ev e' = x.ev e := ev_same fun t ht => he t (by simp [POp.reads, ht])
    have h2 : y.ev e' = y.ev e := ev_same fun t ht => he t (by simp [POp.reads, ht])
    simp only [opD, POp.touch, h1, h2, and_self]
  | xs x y =>
    have h1 : x.ev e' = x.ev e := ev_same fun t ht => he t (by simp [POp.reads, ht])
    have h2 : y.ev e' = y.ev e := ev_same fun t ht => he t (by simp [POp.reads, ht])
    simp only [opD, POp.touch, h1, h2, and_self]
  | ss x lo hi =>
    have h1 : x.ev e' = x.ev e := ev_same fun t ht => he t (by simp [POp.reads, ht])
    have h2 : ∀ d, bnd e' lo d = bnd e lo d := fun d => bnd_same fun t ht => he t (by simp [POp.reads, ht])
    have h3 : ∀ d, bnd e' hi d = bnd e hi d := fun d => bnd_same fun t ht => he t (by simp [POp.reads, ht])
    simp only [opD, POp.touch, h1, h2, h3, and_self]
  | sv esz x lo hi mx =>
    have h1 : x.ev e' = x.ev e := ev_same fun t ht => he t (by simp [POp.reads, ht])
    have h2 : ∀ d, bnd e' lo d = bnd e lo d := fun d => bnd_same fun t ht => he t (by simp [POp.reads, ht])
    have h3 : ∀ d, bnd e' hi d = bnd e hi d := fun d => bnd_same fun t ht => he t (by simp [POp.reads, ht])
    have h4 : ∀ d, bnd e' mx d = bnd e mx d := fun d => bnd_same fun t ht => he t (by simp [POp.reads, ht])
    cases mx with
    | none => simp only [opD, POp.touch, h1, h2, h3, and_self]
    | some mx => simp only [opD, POp.touch, h1, h2, h3, h4, and_self]
  | sa n esz x lo hi =>
    have h1 : x.ev e' = x.ev e := ev_same fun t ht => he t (by simp [POp.reads, ht])
    have h2 : ∀ d, bnd e' lo d = bnd e lo d := fun d => bnd_same fun t ht => he t (by simp [POp.reads, ht])
    have h3 : ∀ d, bnd e' hi d = bnd e hi d := fun d => bnd_same fun t ht => he t (by simp [POp.reads, ht])
    simp only [opD, POp.touch, h1, h2, h3, and_true]
    cases hx : x.ev e <;> simp only
    rw [hm _ (by simp [POp.touch, hx, refOf])]
  | ld ag n a =>
    simp only [opD, POp.touch, ev_same he, and_true]
    cases hx : a.ev e <;> simp only
    rw [hm _ (by simp [POp.touch, hx, refOf])]
  | st n a x =>
    have h1 : a.ev e' = a.ev e := ev_same fun t ht => he t (by simp [POp.reads, ht])
    have h2 : x.ev e' = x.ev e := ev_same fun t ht => he t (by simp [POp.reads, ht])
    simp only [opD, POp.touch, h1, h2, and_true]
    cases hx : a.ev e <;> simp only
    rw [hm _ (by simp [POp.touch, hx, refOf])]
  | cbs x =>
    simp only [opD, POp.touch, ev_same he, and_true]
    rw [slCells_same (fun l hl => hm l (by simpa [POp.touch] using hl))]
  | lk q z a k ok =>
    have h1 : a.ev e' = a.ev e := ev_same fun t ht => he t (by simp [POp.reads, ht])
    have h2 : k.ev e' = k.ev e := ev_same fun t ht => he t (by simp [POp.reads, ht])
    simp only [opD, POp.touch, h1, h2, and_true]
    cases hx : a.ev e <;> simp only
    rw [hm _ (by simp [POp.touch, hx, refOf])]
  | mu q a k v =>
    have h1 : a.ev e' = a.ev e := ev_same fun t ht => he t (by simp [POp.reads, ht])
    have h2 : k.ev e' = k.ev e := ev_same fun t ht => he t (by simp [POp.reads, ht])
    have h3 : v.ev e' = v.ev e := ev_same fun t ht => he t (by simp [POp.reads, ht])
    simp only [opD, POp.touch, h1, h2, h3, and_true]
    cases hx : a.ev e <;> simp only
    rw [hm _ (by simp [POp.touch, hx, refOf])]
  | ln k x =>
    simp only [opD, POp.touch, ev_same he, and_true]
    rw [lenK_same (fun l hl => hm l (by simpa [POp.touch] using hl))]
  | ap esz a x =>
    have h1 : a.ev e' = a.ev e := ev_same fun t ht => he t (by simp [POp.reads, ht])
    have h2 : x.ev e' = x.ev e := ev_same fun t ht => he t (by simp [POp.reads, ht])
    simp only [opD, POp.touch, h1, h2, and_true]
    rw [apCells_same (fun l hl => hm l (by simp [POp.touch, hl])), lenV_same (fun l hl => hm l (by simp [POp.touch, hl]))]
    cases hx : a.ev e <;> (try rfl)
    rename_i l off len esz2
    have hl : m' l = m l := hm _ (by simp [POp.touch, hx, refOf])
    cases off <;> simp only [hl]
  | cp esz a x =>
    have h1 : a.ev e' = a.ev e := ev_same fun t ht => he t (by simp [POp.reads, ht])
    have h2 : x.ev e' = x.ev e := ev_same fun t ht => he t (by simp [POp.reads, ht])
    simp only [opD, POp.touch, h1, h2, and_true]
    rw [apCells_same (fun l hl => hm l (by simp [POp.touch, hl])), lenV_same (fun l hl => hm l (by simp [POp.touch, hl]))]
    cases hx : a.ev e <;> simp only
    rw [hm _ (by simp [POp.touch, hx, refOf])]

theorem cls0_touch {o : POp} (h : o.cls = 0) : o.touch e = [] := by
  cases o <;> simp [POp.cls] at h <;> rfl

/-- Where an operation writes. -/
theorem opD_ws {o : POp} {slot : Nat} {v : V} {ws : Ws} (h : opD o e m slot = some (v, ws)) : ∀ q ∈ ws, o.cls = 2 ∧ (q.1 = slot ∨ q.1 ∈ o.touch e) := by
  intro q hq
  cases o with
  | st n a x =>
    simp only [opD] at h
    split at h
    · rename_i l off hx
      split at h
      · split at h
        · simp only [Option.some.injEq, Prod.mk.injEq] at h
          obtain ⟨_, rfl⟩ := h
          simp only [List.mem_singleton] at hq
          subst hq
          exact ⟨rfl, .inr (by simp [POp.touch, hx, refOf])⟩
        · cases h
      · split at h
        · simp only [Option.some.injEq, Prod.mk.injEq] at h
          obtain ⟨_, rfl⟩ := h
          simp only [List.mem_singleton] at hq
          subst hq
          exact ⟨rfl, .inr (by simp [POp.touch, hx, refOf])⟩
        · cases h
      · cases h
    · cases h
  | ub k x y => exact ⟨rfl, ubD_ws h q hq⟩
  | mu k a b c =>
    simp only [opD] at h
    split at h
    · rename_i l hx
      split at h
      · simp only [Option.map_eq_some_iff] at h
        obtain ⟨o, _, h2⟩ := h
        split at h2
        all_goals
          simp only [Prod.mk.injEq] at h2
          obtain ⟨_, rfl⟩ := h2
          simp only [List.mem_singleton] at hq
          subst hq
          exact ⟨rfl, .inr (by simp [POp.touch, hx, refOf])⟩
      · cases h
    · cases h
  | ap esz a x =>
    simp only [opD, Option.bind_eq_some_iff] at h
    obtain ⟨xs, _, n, _, h⟩ := h
    split at h
    · split at h
      · simp only [Option.some.injEq, Prod.mk.injEq] at h
        obtain ⟨_, rfl⟩ := h
        cases hq
      · split at h
        · simp only [Option.some.injEq, Prod.mk.injEq] at h
          obtain ⟨_, rfl⟩ := h
          simp only [List.mem_singleton] at hq
          subst hq
          exact ⟨rfl, .inl rfl⟩
        · cases h
    · rename_i l len esz' hx
      split at h
      · simp only [Option.some.injEq, Prod.mk.injEq] at h
        obtain ⟨_, rfl⟩ := h
        cases hq
      · split at h
        · split at h
          · simp only [Option.some.injEq, Prod.mk.injEq] at h
            obtain ⟨_, rfl⟩ := h
            simp only [List.mem_cons, List.not_mem_nil, or_false] at hq
            rcases hq with rfl | rfl
            · exact ⟨rfl, .inr (by simp [POp.touch, hx, refOf])⟩
            · exact ⟨rfl, .inl rfl⟩
          · cases h
        · split at h
          · simp only [Option.some.injEq, Prod.mk.injEq] at h
            obtain ⟨_, rfl⟩ := h
            simp only [List.mem_singleton] at hq
            subst hq
            exact ⟨rfl, .inl rfl⟩
          · cases h
        · cases h
    · cases h
  | cp esz a x =>
    simp only [opD, Option.bind_eq_some_iff] at h
    obtain ⟨xs, _, n, _, h⟩ := h
    split at h
    · rename_i l off len esz' hx
      split at h
      · split at h
        · simp only [Option.some.injEq, Prod.mk.injEq] at h
          obtain ⟨_, rfl⟩ := h
          simp only [List.mem_singleton] at hq
          subst hq
          exact ⟨rfl, .inr (by simp [POp.touch, hx, refOf])⟩
        · cases h
      · cases h
    · simp only [Option.some.injEq, Prod.mk.injEq] at h
      obtain ⟨_, rfl⟩ := h
      cases hq
    · cases h
  | mx l =>
    cases l <;> simp only [opD] at h
    · cases h
    · simp only [Option.map_eq_some_iff, Prod.mk.injEq] at h
      obtain ⟨_, _, _, rfl⟩ := h
      cases hq
  | mn l =>
    cases l <;> simp only [opD] at h
    · cases h
    · simp only [Option.map_eq_some_iff, Prod.mk.injEq] at h
      obtain ⟨_, _, _, rfl⟩ := h
      cases hq
  | lk k z a b c =>
    have aux : ∀ {ks vs : List V} {r : V × Ws}, look k z (b.ev e) c ks vs = some r → r.2 = [] := by
      intro ks vs r hr
      simp only [look, Option.bind_eq_some_iff] at hr
      obtain ⟨o, _, h2⟩ := hr
      cases o with
      | some j =>
        simp only [Option.map_eq_some_iff] at h2
        obtain ⟨_, _, rfl⟩ := h2
        rfl
      | none =>
        simp only [Option.some.injEq] at h2
        subst h2
        rfl
    simp only [opD] at h
    repeat' split at h
    all_goals first | (have := aux h; simp only at this; subst this; cases hq) | cases h
  | _ =>
    refine (?_ : _ ∧ q.1 = slot).imp id .inl
    simp only [opD] at h
    revert h
    repeat' split
    all_goals (try (simp only [Option.some.injEq, Prod.mk.injEq, Option.map_eq_some_iff, Option.bind_eq_some_iff, reduceCtorEq, false_implies]))
    all_goals (try (intro h; obtain ⟨_, rfl⟩ := h; simp at hq; try (subst hq; exact ⟨rfl, rfl⟩)))
    all_goals (try (intro h; obtain ⟨_, _, _, rfl⟩ := h; simp at hq; try (subst hq; exact ⟨rfl, rfl⟩)))
    all_goals
      rintro h
      first
        | (obtain ⟨_, _, _, _, h⟩ := h; exact h.elim)
        | (obtain ⟨_, _, _, _, h⟩ := h
           repeat' split at h
           all_goals first | (cases h; done) | (simp only [Option.some.injEq, Prod.mk.injEq] at h; obtain ⟨_, rfl⟩ := h; cases hq; done))
        | (obtain ⟨_, _, _, _, _, _, _, _, h⟩ := h
           repeat' split at h
           all_goals first | (cases h; done) | (simp only [Option.some.injEq, Prod.mk.injEq] at h; obtain ⟨_, rfl⟩ := h; cases hq; done))

end
end Pi


/- What a call of open order depends on; one step of open order. -/
namespace Pi
open Go (IntKind TypeId FuncId Fn BinOp UnOp LoopState Value Addr World Program undef Operand Sem Result Frame Item step lone Steps step_lone_go stepG)

abbrev De := Nat → Option (Bool × List V × List V × List Nat)

/-- What one of them answers, the other one does where all that it saw is alike. -/
def DeSame (A : Nat → Prop) (de de' : De) : Prop := ∀ l q, de l = some q → A l → (∀ k ∈ q.2.2.2, A k) → de' l = some q

mutual
theorem frzW_same {A : Nat → Prop} {de de' : De} (hd : DeSame A de de') : ∀ (x : V) {r : V × List Nat}, frzW de x = some r → (∀ l ∈ r.2, A l) → frzW de' x = some r
  | .b _, r, h, _ => by simp only [frzW] at h ⊢; exact h
  | .i _ _, r, h, _ => by simp only [frzW] at h ⊢; exact h
  | .s _, r, h, _ => by simp only [frzW] at h ⊢; exact h
  | .np, r, h, _ => by simp only [frzW] at h ⊢; exact h
  | .p l off, r, h, ha => by
    simp only [frzW, Option.bind_eq_some_iff] at h ⊢
    obtain ⟨q, h1, h2⟩ := h
    refine ⟨q, ?_, h2⟩
    split at h2
    · cases h2
    · simp only [Option.some.injEq] at h2
      subst h2
      exact hd l q h1 (ha l (List.mem_cons_self)) (fun k hk => ha k (List.mem_cons_of_mem _ hk))
  | .rp cs, r, h, _ => by simp only [frzW] at h ⊢; exact h
  | .ns, r, h, _ => by simp only [frzW] at h ⊢; exact h
  | .sl cs n, r, h, _ => by simp only [frzW] at h ⊢; exact h
  | .ms l off n esz, r, h, ha => by
    simp only [frzW, Option.bind_eq_some_iff] at h ⊢
    obtain ⟨q, h1, h2⟩ := h
    refine ⟨q, ?_, h2⟩
    split at h2
    · simp only [Option.some.injEq] at h2
      subst h2
      exact hd l q h1 (ha l (List.mem_cons_self)) (fun k hk => ha k (List.mem_cons_of_mem _ hk))
    · cases h2
  | .nm, r, h, _ => by simp only [frzW] at h ⊢; exact h
  | .mp l, r, h, ha => by
    simp only [frzW, Option.bind_eq_some_iff] at h ⊢
    obtain ⟨q, h1, h2⟩ := h
    refine ⟨q, ?_, h2⟩
    split at h2
    · simp only [Option.some.injEq] at h2
      subst h2
      exact hd l q h1 (ha l (List.mem_cons_self)) (fun k hk => ha k (List.mem_cons_of_mem _ hk))
    · cases h2
  | .rm ks vs, r, h, _ => by simp only [frzW] at h ⊢; exact h
  | .nf, r, h, _ => by simp only [frzW] at h ⊢; exact h
  | .fn f a c, r, h, ha => by
    simp only [frzW] at h ⊢
    split at h
    · simp only [Option.bind_eq_some_iff, Option.some.injEq] at h ⊢
      obtain ⟨x, h1, y, h2, rfl⟩ := h
      exact ⟨x, frzL_same hd a h1 (fun l hl => ha l (List.mem_append.2 (.inl hl))), y, frzL_same hd c h2 (fun l hl => ha l (List.mem_append.2 (.inr hl))), rfl⟩
    · cases h
  | .ni, r, h, _ => by simp only [frzW] at h ⊢; exact h
  | .fc t x, r, h, ha => by
    simp only [frzW, Option.bind_eq_some_iff, Option.some.injEq] at h ⊢
    obtain ⟨y, h1, rfl⟩ := h
    exact ⟨y, frzW_same hd x h1 ha, rfl⟩
  | .ag cs, r, h, ha => by
    simp only [frzW, Option.bind_eq_some_iff, Option.some.injEq] at h ⊢
    obtain ⟨y, h1, rfl⟩ := h
    exact ⟨y, frzL_same hd cs h1 ha, rfl⟩
  | .tu cs, r, h, ha => by
    simp only [frzW, Option.bind_eq_some_iff, Option.some.injEq] at h ⊢
    obtain ⟨y, h1, rfl⟩ := h
    exact ⟨y, frzL_same hd cs h1 ha, rfl⟩
  | .un, r, h, _ => by simp only [frzW] at h; cases h
theorem frzL_same {A : Nat → Prop} {de de' : De} (hd : DeSame A de de') : ∀ (x : List V) {r : List V × List Nat}, frzL de x = some r → (∀ l ∈ r.2, A l) → frzL de' x = some r
  | [], r, h, _ => by simp only [frzL] at h ⊢; exact h
  | c :: cs, r, h, ha => by
    simp only [frzL, Option.bind_eq_some_iff, Option.some.injEq] at h ⊢
    obtain ⟨x, h1, y, h2, rfl⟩ := h
    exact ⟨x, frzW_same hd c h1 (fun l hl => ha l (List.mem_append.2 (.inl hl))), y, frzL_same hd cs h2 (fun l hl => ha l (List.mem_append.2 (.inr hl))), rfl⟩
end

theorem der_same {m m' : Sto} : ∀ d, DeSame (fun l => m' l = m l) (der m d) (der m' d)
  | 0 => fun l q h _ _ => by simp [der] at h
  | d + 1 => fun l q h ha hs => by
    have ih := der_same (m := m) (m' := m') d
    simp only [der] at h ⊢
    rw [ha]
    split at h
    · rename_i cs r hm
      simp only [hm, Option.bind_eq_some_iff, Option.some.injEq] at h ⊢
      obtain ⟨x, h1, rfl⟩ := h
      exact ⟨x, frzL_same ih cs h1 hs, rfl⟩
    · rename_i cs hm
      simp only [hm, Option.bind_eq_some_iff, Option.some.injEq] at h ⊢
      obtain ⟨x, h1, rfl⟩ := h
      exact ⟨x, frzL_same ih cs h1 hs, rfl⟩
    · rename_i ks vs r hm
      simp only [hm, Option.bind_eq_some_iff, Option.some.injEq] at h ⊢
      obtain ⟨x, h1, y, h2, rfl⟩ := h
      exact ⟨x, frzL_same ih ks h1 (fun l hl => hs l (List.mem_append.2 (.inl hl))), y, frzL_same ih vs h2 (fun l hl => hs l (List.mem_append.2 (.inr hl))), rfl⟩
    · cases h

theorem freezeL_same {m m' : Sto} {x : List V} {r : List V × List Nat} (h : freezeL m x = some r) (ha : ∀ l ∈ r.2, m' l = m l) : freezeL m' x = some r :=
  frzL_same (der_same _) x h ha

theorem reachR_some {R : List Nat} {x : Nat} {r : CR × Sto × Nat × Option V} {q : QR} (h : reachR R x r = some q) : ∃ cr m1 x1 rv1, r = (cr, m1, x1, rv1) ∧ cr.val.inn (orNew R x) = true ∧ (∀ l ∈ R, innO (orNew R x) (m1 l) = true) ∧ (freshWs m1 x (x1 - x)).all (fun p => innO (orNew R x) p.2) = true ∧
    q = ⟨cr.val, (R.map fun l => (l, m1 l)) ++ freshWs m1 x (x1 - x), ((R.map fun l => (l, m1 l)) ++ freshWs m1 x (x1 - x)).map Prod.fst, x + (x1 - x), cr.isPan⟩ := by
  obtain ⟨cr, m1, x1, rv1⟩ := r
  simp only [reachR] at h
  split at h
  · rename_i hc
    simp only [Bool.and_eq_true, List.all_eq_true] at hc
    simp only [Option.some.injEq] at h
    refine ⟨cr, m1, x1, rv1, rfl, hc.1.1, hc.1.2, ?_, h.symm⟩
    rw [List.all_eq_true]
    exact hc.2
  · cases h
theorem reachR_ids {R : List Nat} {x : Nat} {r : CR × Sto × Nat × Option V} {q : QR} (h : reachR R x r = some q) : ∀ l ∈ R, l ∈ q.ids := by
  obtain ⟨v, m1, x1, rv1, rfl, _, _, _, rfl⟩ := reachR_some h
  intro l hl
  simp only [List.map_append, List.mem_append]
  exact .inl (List.mem_map.2 ⟨(l, m1 l), List.mem_map.2 ⟨l, hl, rfl⟩, rfl⟩)
theorem reachR_ws {R : List Nat} {x : Nat} {r : CR × Sto × Nat × Option V} {q : QR} (h : reachR R x r = some q) : x ≤ q.x ∧ ∀ p ∈ q.ws, p.1 ∈ q.ids := by
  obtain ⟨v, m1, x1, rv1, rfl, _, _, _, rfl⟩ := reachR_some h
  exact ⟨Nat.le_add_right _ _, fun p hp => List.mem_map.2 ⟨p, hp, rfl⟩⟩
section
variable {P : Program} {C : Ctx} {n : Nat}

theorem callQ_same (lk : Lnk P C) {f : V} {args : List V} {m m' : Sto} {x : Nat} {q : QR} (h : callQ C n f args m x = some q) (ha : ∀ l ∈ q.ids, m' l = m l) : callQ C n f args m' x = some q := by
  cases n with
  | zero => simp [callQ] at h
  | succ n =>
    unfold callQ at h ⊢
    simp only at h ⊢
    split at h
    · rename_i gg first cap
      try simp only
      split at h
      · rename_i hh hprim
        try simp only [hprim]
        simp only [Option.map_eq_some_iff] at h ⊢
        obtain ⟨⟨v, ws⟩, h1, rfl⟩ := h
        exact ⟨(v, ws), ((lk.prim _ _ hprim).2.1 h1).1 m' (fun l hl => ha l (List.mem_cons_of_mem _ hl)), rfl⟩
      · rename_i hprim
        try simp only [hprim]
        split at h
        · rename_i hop
          rw [if_pos hop]
          simp only [Option.bind_eq_some_iff] at h ⊢
          obtain ⟨a, h1, h2⟩ := h
          split at h2
          · rename_i hn
            split at h2
            · cases h2
            · rename_i hk
              simp only [Option.bind_eq_some_iff] at h2
              obtain ⟨r, h3, h4⟩ := h2
              have hids : ∀ l ∈ a.2, m' l = m l := fun l hl => ha l (reachR_ids h4 l hl)
              have hon : m'.only a.2 = m.only a.2 := by
                funext l
                unfold Sto.only
                by_cases hc : a.2.contains l = true
                · rw [if_pos hc, if_pos hc, hids l (by simpa using hc)]
                · rw [if_neg hc, if_neg hc]
              have hrk : reachOK (first ++ args ++ cap) a.2 m' x = reachOK (first ++ args ++ cap) a.2 m x := by
                unfold reachOK
                congr 1
                rw [Bool.eq_iff_iff, List.all_eq_true, List.all_eq_true]
                exact ⟨fun h l hl => by rw [← hids l hl]; exact h l hl, fun h l hl => by rw [hids l hl]; exact h l hl⟩
              refine ⟨a, freezeL_same h1 hids, ?_⟩
              rw [if_pos hn, hrk, if_neg hk, hon]
              simp only [Option.bind_eq_some_iff]
              exact ⟨r, h3, h4⟩
          · rename_i hn
            have hn1 : a.2 = [] := Classical.byContradiction fun h => hn (.inl h)
            refine ⟨a, freezeL_same h1 (by rw [hn1]; intro l hl; cases hl), ?_⟩
            rw [if_neg hn]
            exact h2
        · rename_i hop
          rw [if_neg hop]
          simp only [Option.bind_eq_some_iff] at h ⊢
          obtain ⟨a, h1, ⟨cr, m1, x1, rv1⟩, h2, h3⟩ := h
          cases cr with
          | pan v => cases h3
          | ret v =>
            simp only [Option.bind_eq_some_iff] at h3
            obtain ⟨w, h4, h5⟩ := h3
            simp only [Option.some.injEq] at h5
            subst h5
            refine ⟨a, freezeL_same h1 ha, (.ret v, m1, x1, rv1), h2, ?_⟩
            simp only [Option.bind_eq_some_iff]
            refine ⟨w, h4, ?_⟩
            have : mkWs w.1 m' a.2 = mkWs w.1 m a.2 := by
              unfold mkWs
              split
              · rfl
              · exact List.map_congr_left fun l hl => by rw [ha l hl]
            rw [this]
    · cases h

theorem callQ_ws (lk : Lnk P C) {f : V} {args : List V} {m : Sto} {x : Nat} {q : QR} (h : callQ C n f args m x = some q) : x ≤ q.x ∧ ∀ p ∈ q.ws, p.1 ∈ q.ids := by
  cases n with
  | zero => simp [callQ] at h
  | succ n =>
    unfold callQ at h
    simp only at h
    split at h
    · split at h
      · rename_i hh hprim
        simp only [Option.map_eq_some_iff] at h
        obtain ⟨⟨v, ws⟩, h1, rfl⟩ := h
        refine ⟨by simp, fun p hp => ?_⟩
        rcases ((lk.prim _ _ hprim).2.1 h1).2 p hp with h2 | h2
        · simp [h2]
        · exact List.mem_cons_of_mem _ h2
      · split at h
        · simp only [Option.bind_eq_some_iff] at h
          obtain ⟨a, h1, h2⟩ := h
          split at h2
          · split at h2
            · cases h2
            · simp only [Option.bind_eq_some_iff] at h2
              obtain ⟨r, h3, h4⟩ := h2
              exact reachR_ws h4
          · simp only [Option.bind_eq_some_iff] at h2
            obtain ⟨⟨cr, m1, x1, rv1⟩, h3, h4⟩ := h2
            cases cr with
            | pan v => cases h4
            | ret v =>
              simp only at h4
              split at h4
              · simp only [Option.some.injEq] at h4
                subst h4
                exact ⟨Nat.le_add_right _ _, fun p hp => List.mem_map.2 ⟨p, hp, rfl⟩⟩
              · cases h4
        · simp only [Option.bind_eq_some_iff] at h
          obtain ⟨a, h1, ⟨cr, m1, x1, rv1⟩, h2, h3⟩ := h
          cases cr with
          | pan v => cases h3
          | ret v =>
            simp only [Option.bind_eq_some_iff] at h3
            obtain ⟨w, h4, h5⟩ := h3
            simp only [Option.some.injEq] at h5
            subst h5
            refine ⟨Nat.le_refl _, fun p hp => ?_⟩
            simp only [mkWs] at hp
            split at hp
            · cases hp
            · obtain ⟨l, hl, rfl⟩ := List.mem_map.1 hp
              exact hl
    · cases h

/-- One operation of open order: its value, what it writes, what it touches, the next number. -/
def stepA (C : Ctx) (n : Nat) (p : POper) (e : Env) (m : Sto) (x : Nat) : Option (V × Ws × List Nat × Nat) :=
  match wanted p.g e with
  | none => none
  | some false => some (.tu [], [], [], x)
  | some true =>
    match p.o with
    | .ca f args => (callQ C n (f.ev e) (args.map (Opd.ev e)) m x).bind fun q => if q.pan then none else some (q.v, q.ws, q.ids, q.x)
    | .pa _ | .df _ _ | .rc => none
    | o => (opD o e m x).map fun q => (q.1, q.2, o.tch e x, x + 1)
/-- A call of open order that ends in panic. -/
def stepP (C : Ctx) (n : Nat) (p : POper) (e : Env) (m : Sto) (x : Nat) : Option QR :=
  match wanted p.g e with
  | some true =>
    match p.o with
    | .ca f args => (callQ C n (f.ev e) (args.map (Opd.ev e)) m x).bind fun q => if q.pan then some q else none
    | _ => none
  | _ => none

def updE (e : Env) (d : Option Nat) (v : V) : Env := match d with | some t => e.set t v | none => e

theorem app_nil (m : Sto) : m.app [] = m := by simp [Sto.app]

theorem put_eq (s : S) (d : Option Nat) (v : V) : s.put d v = { s with e := updE s.e d v } := by cases d <;> rfl

/-- What is kept of an operation of open order. -/
def entA (p : POper) (e : Env) (q : V × Ws × List Nat × Nat) : Tch := (q.2.2.1, q.2.1.map Prod.fst, (if wanted p.g e = some true then ldI p.o e q.1 else none), q.2.1)
theorem runAny_cons {p : POper} {r : List POper} {s : S} {ts : List Tch} :
    runAny C (n + 1) (p :: r) s ts = match stepP C n p s.e s.m s.x with
      | some q => if noWs ts && lateOk p.d r then some (.pan q.v, { s with e := fun _ => .un, m := s.m.app q.ws, x := q.x + r.length }, []) else none
      | none => (stepA C n p s.e s.m s.x).bind fun q => runAny C n r { s with e := updE s.e p.d q.1, m := s.m.app q.2.1, x := q.2.2.2 } (entA p s.e q :: ts) := by
  rw [runAny]
  unfold stepA stepP entA
  cases hw : wanted p.g s.e with
  | none => rfl
  | some c =>
    cases c with
    | false => simp only [Option.bind_some, app_nil, put_eq, List.map_nil, Option.some.injEq, Bool.false_eq_true, if_false]
    | true =>
      simp only [if_true]
      cases ho : p.o
      case ca f args =>
        simp only [ldI]
        cases hq : callQ C n (f.ev s.e) (args.map (Opd.ev s.e)) s.m s.x with
        | none => rfl
        | some q =>
          simp only [Option.bind_some]
          by_cases hp : q.pan = true
          · simp only [hp, if_true]
          · simp only [hp, Bool.false_eq_true, if_false, Option.bind_some, put_eq]
      all_goals simp only [Option.bind_none, Option.bind_map, put_eq] <;> rfl

theorem wanted_same {g : Option (Nat × Bool)} {e e' : Env} (h : ∀ t ∈ (match g with | none => [] | some (t, _) => [t] : List Nat), e' t = e t) : wanted g e' = wanted g e := by
  cases g with
  | none => rfl
  | some p =>
    obtain ⟨t, w⟩ := p
    simp only [wanted, h t (by simp)]

theorem stepA_same (lk : Lnk P C) {p : POper} {e e' : Env} {m m' : Sto} {x : Nat} {q : V × Ws × List Nat × Nat} (h : stepA C n p e m x = some q) (he : ∀ t ∈ p.reads, e' t = e t) (hm : ∀ l ∈ q.2.2.1, m' l = m l) :
    stepA C n p e' m' x = some q := by
  have he1 : ∀ t ∈ p.o.reads, e' t = e t := fun t ht => he t (by simp only [POper.reads, List.mem_append]; exact .inl ht)
  have hw := wanted_same (g := p.g) (e := e) (e' := e') fun t ht => he t (by simp only [POper.reads, List.mem_append]; exact .inr ht)
  unfold stepA at h ⊢
  rw [hw]
  cases hc : wanted p.g e with
  | none => rw [hc] at h; cases h
  | some c =>
    rw [hc] at h
    cases c with
    | false => exact h
    | true =>
      simp only at h ⊢
      cases ho : p.o with
      | ca f args =>
        simp only [ho, Option.bind_eq_some_iff] at h ⊢
        rw [ho] at he1
        obtain ⟨y, h1, h2⟩ := h
        have e1 : f.ev e' = f.ev e := ev_same fun t ht => he1 t (by simp only [POp.reads, List.mem_append]; exact .inl ht)
        have e2 := evL_same (l := args) (e := e) (e' := e') fun t ht => he1 t (by simp only [POp.reads, List.mem_append]; exact .inr ht)
        refine ⟨y, ?_, h2⟩
        split at h2
        · cases h2
        · simp only [Option.some.injEq] at h2
          subst h2
          rw [e1, e2]
          exact callQ_same lk h1 hm
      | pa x => simp only [ho] at h; cases h
      | df f l => simp only [ho] at h; cases h
      | rc => simp only [ho] at h; cases h
      | _ =>
        simp only [ho, Option.map_eq_some_iff] at h ⊢
        rw [ho] at he1
        obtain ⟨y, h1, rfl⟩ := h
        obtain ⟨a1, a2⟩ := opD_same (slot := x) (m := m) (m' := m') he1 (fun l hl => hm l (by unfold POp.tch; split <;> simp [hl]))
        exact ⟨y, a1.trans h1, by unfold POp.tch; rw [a2]⟩

theorem stepA_ws (lk : Lnk P C) {p : POper} {e : Env} {m : Sto} {x : Nat} {q : V × Ws × List Nat × Nat} (h : stepA C n p e m x = some q) :
    x ≤ q.2.2.2 ∧ (∀ r ∈ q.2.1, p.o.cls = 2 ∧ r.1 ∈ q.2.2.1) ∧ (p.o.cls = 0 → q.2.2.1 = []) := by
  unfold stepA at h
  cases hc : wanted p.g e with
  | none => rw [hc] at h; cases h
  | some c =>
    rw [hc] at h
    cases c with
    | false =>
      simp only [Option.some.injEq] at h
      subst h
      exact ⟨Nat.le_refl _, (fun r hr => nomatch hr), fun _ => rfl⟩
    | true =>
      simp only at h
      cases ho : p.o with
      | ca f args =>
        simp only [ho, Option.bind_eq_some_iff] at h
        obtain ⟨y, h1, h2⟩ := h
        split at h2
        · cases h2
        simp only [Option.some.injEq] at h2
        subst h2
        obtain ⟨a1, a2⟩ := callQ_ws lk h1
        exact ⟨a1, fun r hr => ⟨rfl, a2 r hr⟩, fun h => by simp [POp.cls] at h⟩
      | pa x => simp only [ho] at h; cases h
      | df f l => simp only [ho] at h; cases h
      | rc => simp only [ho] at h; cases h
      | _ =>
        simp only [ho, Option.map_eq_some_iff] at h
        obtain ⟨y, h1, rfl⟩ := h
        refine ⟨by simp, fun r hr => ?_, fun h => by unfold POp.tch; rw [if_neg (by rw [h]; decide)]; exact cls0_touch (e := e) h⟩
        obtain ⟨h2, h3⟩ := opD_ws h1 r hr
        refine ⟨h2, ?_⟩
        unfold POp.tch
        rw [if_pos h2]
        rcases h3 with h3 | h3
        · simp [h3]
        · simp [h3]

theorem stepP_same (lk : Lnk P C) {p : POper} {e e' : Env} {m : Sto} {x : Nat} {q : QR} (h : stepP C n p e m x = some q) (he : ∀ t ∈ p.reads, e' t = e t) : stepP C n p e' m x = some q := by
  have he1 : ∀ t ∈ p.o.reads, e' t = e t := fun t ht => he t (by simp only [POper.reads, List.mem_append]; exact .inl ht)
  have hw := wanted_same (g := p.g) (e := e) (e' := e') fun t ht => he t (by simp only [POper.reads, List.mem_append]; exact .inr ht)
  unfold stepP at h ⊢
  rw [hw]
  split at h
  · split at h
    · rename_i f args hoo
      rw [hoo] at he1
      have e1 : f.ev e' = f.ev e := ev_same fun t ht => he1 t (by simp only [POp.reads, List.mem_append]; exact .inl ht)
      have e2 := evL_same (l := args) (e := e) (e' := e') fun t ht => he1 t (by simp only [POp.reads, List.mem_append]; exact .inr ht)
      simp only [e1, e2]
      exact h
    · cases h
  · cases h
theorem stepP_ws (lk : Lnk P C) {p : POper} {e : Env} {m : Sto} {x : Nat} {q : QR} (h : stepP C n p e m x = some q) : x ≤ q.x ∧ q.pan = true ∧ ∃ f args, p.o = .ca f args := by
  unfold stepP at h
  split at h
  · split at h
    · rename_i f args hoo
      simp only [Option.bind_eq_some_iff] at h
      obtain ⟨y, h1, h2⟩ := h
      split at h2
      · rename_i hp
        simp only [Option.some.injEq] at h2
        subst h2
        exact ⟨(callQ_ws lk h1).1, hp, f, args, hoo⟩
      · cases h2
    · cases h
  · cases h

end
end Pi

