/- The machine's operations against the pure ones: the rest of them. -/
import Derived.Test.YtglibfclhecbkaaYPi9
import Derived.IntWalk
set_option linter.unusedSimpArgs false
namespace Pi
open Go (IntKind TypeId FuncId Fn BinOp UnOp LoopState Value Addr World Program undef Operand Sem Result)

section
variable {P : Program} {g : G} {m : Sto} {w : World} {slot : Nat}

theorem good_copy (hw : WR P g m w) {t et : TypeId} {u : List TypeId} {n : Nat} (ht : P.underlying t = some (.slice et)) (hn : sizeIn P et = some n) {x y v : V} {ws : Ws} {a b : Value} (hx : VR g.ro x g.rho a) (hy : VR g.ro y g.rho b) (ty : TypeId)
    (h : ((apCells m n y).bind fun xs => (lenV m y).bind fun k =>
      match (generalizing := false) x with
      | .ms l off len esz' => match m l with
        | some (.cells cs false) =>
          if esz' = n ∧ off + len * n ≤ cs.length then
            some (V.i .i64 (min k len : Nat), [(l, some (PObj.cells (splice cs off (xs.take (min k len * n))) false))])
          else none
        | _ => none
      | _ => none) = some (v, ws)) : GoodV P g m w slot v ws ((Go.Builtin.copy_ (t :: u).toArray ty #[a, b]).run P w) := by
  simp only [Option.bind_eq_some_iff] at h
  obtain ⟨xs, h2, k, h3, h4⟩ := h
  obtain ⟨news, n1, n2, n3, n4, n5, n6⟩ := src_ok hw hy h2 h3
  cases x with
  | ms l off len esz' =>
    dsimp only at h4
    split at h4
    · rename_i cs hml
      split at h4
      · rename_i hc
        obtain ⟨rfl, hc2⟩ := hc
        simp only [Option.some.injEq, Prod.mk.injEq] at h4
        obtain ⟨rfl, rfl⟩ := h4
        simp only [VR] at hx
        obtain ⟨bl, kk, cap, e1, rfl, e2, e3⟩ := hx
        obtain ⟨b', k', e1', arr, e, f, f1, f2, f3, f4, f5, f6⟩ := hw.obj l _ hml
        rw [e1] at e1'
        cases e1'
        have hlen := f4.len
        have hmin : min k len ≤ k := Nat.min_le_left _ _
        have hmul : min k len * esz' ≤ k * esz' := Nat.mul_le_mul_right _ hmin
        have hmul2 : min k len * esz' ≤ len * esz' := Nat.mul_le_mul_right _ (Nat.min_le_right _ _)
        have htl : (news.take (min k len * esz')).length = min k len * esz' := by rw [List.length_take]; omega
        have hxl : (xs.take (min k len * esz')).length = min k len * esz' := by rw [List.length_take]; omega
        have hfc := n6 (min k len) w hmin rfl
        obtain ⟨w', k1, k2, k3, k4⟩ := run_storeCells (P := P) (b := bl) (o := off) (e := e) (f := f) (news.take (min k len * esz')) 0 w arr f1 (by rw [htl]; simp at hlen; omega) (fun p hp => n4 p (List.mem_of_mem_take hp)) (by rw [f2]; exact f5)
        refine ⟨.int .i64 (min k len : Nat), w', g.rho, ?_, RhoE.refl _, fun _ _ => rfl, by simp [VR], ?_, k4⟩
        · have hmm : Nat.min k len = min k len := rfl
          simp [Go.Builtin.copy_, Go.run_underlying ht, n5, run_sizeOf hn, hmm, hfc, k1, Go.goInt]
        · refine WR.put hw hml e1 (by simpa using f6) k3 ?_
          refine ⟨_, e, f, k2, ?_, by simpa using f3.splice (fun p hp => n4 p (List.mem_of_mem_take hp)), ?_, f5, f6⟩
          · rw [← f2]
            have := spliceL_len arr.toList (off + 0) (news.take (min k len * esz')) (by rw [htl]; simp at hlen ⊢; omega)
            simpa using this
          · simpa using f4.splice (n1.take _) (by rw [htl, hxl]) (by rw [hxl]; omega)
      · cases h4
    · cases h4
  | _ => cases h4

theorem good_makeSlice (hw : WR P g m w) (hm : g.rho slot = none) {t et : TypeId} {inf : Go.TypeInfo} (ht : P.underlying t = some (.slice et)) (hi : P.info? et = some inf) (h1 : 1 ≤ inf.size) (hby : inf.bytes ≤ LIM)
    {z : List V} (hz : zeroL P et = some z) (hzl : z.length = inf.size) {x y v : V} {ws : Ws} {a b : Value} (hx : VR g.ro x g.rho a) (hy : VR g.ro y g.rho b)
    (h : (match (generalizing := false) x, y with
      | .i .i64 n, .i .i64 c =>
        if 0 ≤ n ∧ n = c ∧ n ≤ BIG then
          if n = 0 then some (V.ns, ([] : Ws)) else some (.ms slot 0 n.toNat inf.size, [(slot, some (PObj.cells (zeros z n.toNat) false))])
        else none
      | _, _ => none) = some (v, ws)) : GoodV P g m w slot v ws ((Go.Instr.makeSlice t a b).run P w) := by
  obtain ⟨n, c, rfl, rfl, hh⟩ : ∃ n c, x = .i .i64 n ∧ y = .i .i64 c ∧ (if 0 ≤ n ∧ n = c ∧ n ≤ BIG then
          if n = 0 then some (V.ns, ([] : Ws)) else some (.ms slot 0 n.toNat inf.size, [(slot, some (PObj.cells (zeros z n.toNat) false))])
        else none) = some (v, ws) := by
    split at h
    · exact ⟨_, _, rfl, rfl, h⟩
    · cases h
  clear h
  have h := hh
  clear hh
  by_cases hc : 0 ≤ n ∧ n = c ∧ n ≤ BIG
  · rw [if_pos hc] at h
    obtain ⟨c1, rfl, c3⟩ := hc
    simp only [VR] at hx hy
    subst hx; subst hy
    obtain ⟨zv, z1, z2, z3, z4⟩ := zeroL_ok hz g.ro g.rho
    have hzv : inf.zero = some zv := by simpa [zeroIn, hi] using z1
    have hsize : (Go.sizeOf et).run P w = .ok inf.size w := run_sizeOf (by simp [sizeIn, hi])
    have hwrap : IntKind.i64.wrap n = n := Go.IntWalk.i64_in n (by unfold BIG at c3; omega)
    obtain ⟨k, rfl⟩ := Int.eq_ofNat_of_zero_le c1
    have hk : k ≤ BIG := by omega
    have hbig : ¬ (281474976710656 < (inf.bytes : Int) * (k : Int)) := by
      have : inf.bytes * k ≤ LIM * BIG := Nat.mul_le_mul hby hk
      unfold LIM BIG at this
      have h2 : ((inf.bytes * k : Nat) : Int) ≤ ((4096 * 2147483648 : Nat) : Int) := Int.ofNat_le.2 this
      simp only [Int.natCast_mul] at h2
      omega
    split at h
    · rename_i h0
      have h0 : k = 0 := by omega
      subst h0
      simp only [Option.some.injEq, Prod.mk.injEq] at h
      obtain ⟨rfl, rfl⟩ := h
      refine ⟨.slice (some ⟨w.heap.size, 0, none⟩) 0 0, { w with heap := w.heap.push (.cells #[] et) }, g.rho, ?_, RhoE.refl _, fun _ _ => rfl, by simp [VR], hw.push _, WB.push _ _⟩
      have e0 : ((Array.range 0).map fun _ => (default : Value)) = #[] := by simp
      have hw0 : IntKind.i64.wrap 0 = 0 := by decide
      simp [Go.Instr.makeSlice, Go.run_underlying ht, Go.asInt, Go.asIntOf, Go.typeInfo, hi, hw0, hsize, Go.newRow, e0]
    · rename_i h0
      simp only [Option.some.injEq, Prod.mk.injEq] at h
      obtain ⟨rfl, rfl⟩ := h
      simp only [Int.toNat_natCast]
      have hk0 : k ≠ 0 := by omega
      obtain ⟨q1, q2, q3⟩ := zeros_rel z2 z3 z4 k (k * inf.size) (by rw [hzl])
      refine ⟨.slice (some ⟨w.heap.size, 0, none⟩) k k, { w with heap := w.heap.push (.cells ((Array.range (k * inf.size)).map (zv.cells[· % zv.cells.size]!)) et) }, g.rho.set slot (w.heap.size, _), ?_, Rho.set_ext hm, fun l hl => rho_set_ne _ _ hl, ?_, newCells hw hm q1 q3 et, WB.push _ _⟩
      · have hneg : ¬ ((k : Int) < 0) := by omega
        have hne : ¬ (k * inf.size = 0) := by
          intro hh
          rcases Nat.mul_eq_zero.1 hh with h | h <;> omega
        simp [Go.Instr.makeSlice, Go.run_underlying ht, Go.asInt, Go.asIntOf, Go.typeInfo, hi, hwrap, hsize, Go.newRow, hbig, Go.zeroValue, hzv, hneg, hne]
      · simp only [VR]
        refine ⟨_, _, k, rho_set_same _ _ _, rfl, Nat.le_refl _, ?_⟩
        simp
  · rw [if_neg hc] at h
    cases h

theorem bnd_ok {e : Env} {tm : Array Value} (he : ER g e tm) {o : Option Operand} {o' : Option Opd} (ho : opdO o = some o') {d r : Nat} (h : bnd e o' d = some r) :
    (o = none ∧ r = d) ∨ ∃ x k, o = some x ∧ evT tm x = .int k r := by
  cases o with
  | none =>
    simp only [opdO, Option.some.injEq] at ho
    subst ho
    simp only [bnd, Option.some.injEq] at h
    exact .inl ⟨rfl, h.symm⟩
  | some x =>
    simp only [opdO, Option.map_eq_some_iff] at ho
    obtain ⟨y, h1, rfl⟩ := ho
    have hv := opd_ok he h1
    simp only [bnd] at h
    split at h
    · rename_i k n hy
      split at h
      · rename_i h0
        simp only [Option.some.injEq] at h
        rw [hy] at hv
        simp only [VR] at hv
        refine .inr ⟨x, k, rfl, ?_⟩
        rw [hv, ← h]
        congr 1
        omega
      · cases h
    · cases h

theorem run_bound {k : IntKind} {r y : Nat} (h : r ≤ y) (c : Go.BoundsCode) : (Go.Instr.sliceBound (.int k r) y c).run P w = .ok r w := by
  have h2 : (r : Int) ≤ (y : Int) := by omega
  simp [Go.Instr.sliceBound, Go.asIntOf, h2, h]

theorem run_bound0 {k : IntKind} {y : Nat} (c : Go.BoundsCode) : (Go.Instr.sliceBound (.int k 0) y c).run P w = .ok 0 w := by
  have := run_bound (P := P) (w := w) (k := k) (Nat.zero_le y) c
  simpa using this

/-- The bounds of a slice expression with no third one. -/
theorem run_bounds {e : Env} {tm : Array Value} (he : ER g e tm) {lo hi : Option Operand} {lo' hi' : Option Opd} (hlo : opdO lo = some lo') (hhi : opdO hi = some hi') {len cap l h : Nat}
    (h1 : bnd e hi' len = some h) (h2 : bnd e lo' 0 = some l) (h3 : l ≤ h) (h4 : h ≤ cap) (sl : Bool) :
    (Go.Instr.sliceBounds sl len cap (lo.map (evT tm)) (hi.map (evT tm)) none).run P w = .ok (l, h, cap) w := by
  have q1 := bnd_ok he hhi h1
  have q2 := bnd_ok he hlo h2
  rcases q1 with ⟨rfl, rfl⟩ | ⟨x, k, rfl, e1⟩ <;> rcases q2 with ⟨rfl, rfl⟩ | ⟨y, k', rfl, e2⟩
  · simp [Go.Instr.sliceBounds]
  · simp [Go.Instr.sliceBounds, e2, run_bound h3]
  · simp [Go.Instr.sliceBounds, e1, run_bound h4]
  · simp [Go.Instr.sliceBounds, e1, e2, run_bound h3, run_bound h4]

theorem good_ss (hw : WR P g m w) {e : Env} {tm : Array Value} (he : ER g e tm) {t : TypeId} (ht : P.underlying t = some .string) {x v : V} {a : Value} {ws : Ws} (hx : VR g.ro x g.rho a) {lo hi : Option Operand} {lo' hi' : Option Opd} (hlo : opdO lo = some lo') (hhi : opdO hi = some hi')
    (h : (match (generalizing := false) x with
      | .s a => (bnd e hi' a.size).bind fun h => (bnd e lo' 0).bind fun l => if l ≤ h ∧ h ≤ a.size then some (V.s (a.extract l h), ([] : Ws)) else none
      | _ => none) = some (v, ws)) : GoodV P g m w slot v ws ((Go.Instr.sliceAt t a (lo.map (evT tm)) (hi.map (evT tm)) none).run P w) := by
  cases x with
  | s b =>
    simp only [Option.bind_eq_some_iff] at h
    obtain ⟨h', h1, l, h2, h3⟩ := h
    split at h3
    · rename_i hc
      simp only [Option.some.injEq, Prod.mk.injEq] at h3
      obtain ⟨rfl, rfl⟩ := h3
      simp only [VR] at hx
      subst hx
      refine GoodV.pure hw (v' := .string (b.extract l h')) (by simp [VR]) ?_
      simp [Go.Instr.sliceAt, Go.Instr.slice, Go.run_underlying ht, run_bounds (P := P) (w := w) he hlo hhi h1 h2 hc.1 hc.2]
    · cases h3
  | _ => cases h

theorem sliced (b off l esz : Nat) (cap : Nat) (hl : l ≠ cap) : (if cap = l then some (⟨b, off, none⟩ : Addr) else (some (⟨b, off, none⟩ : Addr)).map (·.add (l * esz))) = some ⟨b, off + l * esz, none⟩ := by
  rw [if_neg (fun e => hl e.symm)]
  simp [add_none]

theorem good_sv (hw : WR P g m w) {e : Env} {tm : Array Value} (he : ER g e tm) {t et n : TypeId} (ht : P.underlying t = some (.slice et)) (hn : sizeIn P et = some n) {x v : V} {a : Value} {ws : Ws} (hx : VR g.ro x g.rho a)
    {lo hi : Option Operand} {lo' hi' : Option Opd} (hlo : opdO lo = some lo') (hhi : opdO hi = some hi')
    (h : (match (generalizing := false) x with
      | .ns => (bnd e hi' 0).bind fun h => (bnd e lo' 0).bind fun l => if l = 0 ∧ h = 0 then some (V.ns, ([] : Ws)) else none
      | .sl cs k => (bnd e hi' k).bind fun h => (bnd e lo' 0).bind fun l =>
        if l ≤ h ∧ h ≤ k ∧ cs.length = k * n then some (.sl ((cs.drop (l * n)).take ((h - l) * n)) (h - l), []) else none
      | .ms b off k esz' => (bnd e hi' k).bind fun h => (bnd e lo' 0).bind fun l =>
        if l ≤ h ∧ h ≤ k ∧ esz' = n then
          (if l = 0 then some (.ms b off h n, []) else if h = l then some (.sl [] 0, []) else some (.ms b (off + l * n) (h - l) n, []))
        else none
      | _ => none) = some (v, ws)) : GoodV P g m w slot v ws ((Go.Instr.sliceAt t a (lo.map (evT tm)) (hi.map (evT tm)) none).run P w) := by
  cases x with
  | ns =>
    simp only [Option.bind_eq_some_iff] at h
    obtain ⟨h', h2, l, h3, h4⟩ := h
    split at h4
    · rename_i hc
      obtain ⟨rfl, rfl⟩ := hc
      simp only [Option.some.injEq, Prod.mk.injEq] at h4
      obtain ⟨rfl, rfl⟩ := h4
      simp only [VR] at hx
      obtain ⟨base, rfl⟩ := hx
      refine GoodV.pure hw (v' := .slice base 0 0) (by simp [VR]) ?_
      simp [Go.Instr.sliceAt, Go.Instr.slice, Go.run_underlying ht, run_sizeOf hn, run_bounds (P := P) (w := w) he hlo hhi h2 h3 (Nat.le_refl 0) (Nat.le_refl 0)]
    · cases h4
  | sl cs k =>
    simp only [Option.bind_eq_some_iff] at h
    obtain ⟨h', h2, l, h3, h4⟩ := h
    split at h4
    · rename_i hc
      obtain ⟨c1, c2, c3⟩ := hc
      simp only [Option.some.injEq, Prod.mk.injEq] at h4
      obtain ⟨rfl, rfl⟩ := h4
      simp only [VR] at hx
      obtain ⟨base, cap, rfl, k1, k2⟩ := hx
      refine GoodV.pure hw (v' := .slice (if cap = l then base else base.map (·.add (l * n))) (h' - l) (cap - l)) ?_ ?_
      · simp only [VR]
        refine ⟨_, _, rfl, by omega, ?_⟩
        by_cases hz : h' = l
        · subst hz; left; simp
        · right
          rcases k2 with ⟨rfl, rfl⟩ | ⟨b, o, arr, ee, f, rfl, k3, k4, k5⟩
          · omega
          · refine ⟨b, o + l * n, arr, ee, f, sliced b o l n cap (by omega), k3, k4.part (by simp [List.length_take, List.length_drop]; omega), ?_⟩
            have := (k5.drop (l * n)).takeL ((h' - l) * n)
            rwa [List.drop_drop] at this
      · simp [Go.Instr.sliceAt, Go.Instr.slice, Go.run_underlying ht, run_sizeOf hn, run_bounds (P := P) (w := w) he hlo hhi h2 h3 c1 (Nat.le_trans c2 k1)]
    · cases h4
  | ms b off k esz' =>
    simp only [Option.bind_eq_some_iff] at h
    obtain ⟨h', h2, l, h3, h4⟩ := h
    split at h4
    · rename_i hc
      obtain ⟨c1, c2, rfl⟩ := hc
      simp only [VR] at hx
      obtain ⟨bl, nn, cap, k1, rfl, k2, k3⟩ := hx
      have hrun : (Go.Instr.sliceAt t (.slice (some ⟨bl, off, none⟩) k cap) (lo.map (evT tm)) (hi.map (evT tm)) none).run P w =
          .ok (.slice (if cap = l then some ⟨bl, off, none⟩ else (some (⟨bl, off, none⟩ : Addr)).map (·.add (l * esz'))) (h' - l) (cap - l)) w := by
        simp [Go.Instr.sliceAt, Go.Instr.slice, Go.run_underlying ht, run_sizeOf hn, run_bounds (P := P) (w := w) he hlo hhi h2 h3 c1 (Nat.le_trans c2 k2)]
      split at h4
      · rename_i hl
        subst hl
        simp only [Option.some.injEq, Prod.mk.injEq] at h4
        obtain ⟨rfl, rfl⟩ := h4
        refine GoodV.pure hw ?_ hrun
        simp only [VR]
        refine ⟨bl, nn, cap, k1, ?_, by omega, k3⟩
        simp [add_none]
      · rename_i hl
        split at h4
        · rename_i hh
          simp only [Option.some.injEq, Prod.mk.injEq] at h4
          obtain ⟨rfl, rfl⟩ := h4
          refine GoodV.pure hw ?_ hrun
          simp only [VR]
          exact ⟨_, _, by rw [hh, Nat.sub_self], by omega, .inl (by simp)⟩
        · rename_i hh
          simp only [Option.some.injEq, Prod.mk.injEq] at h4
          obtain ⟨rfl, rfl⟩ := h4
          refine GoodV.pure hw ?_ hrun
          simp only [VR]
          refine ⟨bl, nn, cap - l, k1, by rw [sliced bl off l esz' cap (by omega)], by omega, ?_⟩
          have : (cap - l) * esz' = cap * esz' - l * esz' := Nat.sub_mul _ _ _
          have : l * esz' ≤ cap * esz' := Nat.mul_le_mul_right _ (by omega)
          omega
    · cases h4
  | _ => cases h

theorem good_sv3 (hw : WR P g m w) {e : Env} {tm : Array Value} (he : ER g e tm) {t et n : TypeId} (ht : P.underlying t = some (.slice et)) (hn : sizeIn P et = some n) {x v : V} {a : Value} {ws : Ws} (hx : VR g.ro x g.rho a)
    {lo hi mx : Option Operand} {lo' hi' : Option Opd} {mx' : Opd} (hlo : opdO lo = some lo') (hhi : opdO hi = some hi') (hmx : opdO mx = some (some mx'))
    (h : ((bnd e (some mx') 0).bind fun c => (bnd e hi' 0).bind fun h => (bnd e lo' 0).bind fun l =>
        (lenSl x).bind fun n => if c = l ∧ h = l ∧ hi'.isSome ∧ c ≤ n then some (V.ns, ([] : Ws)) else none) = some (v, ws)) :
    GoodV P g m w slot v ws ((Go.Instr.sliceAt t a (lo.map (evT tm)) (hi.map (evT tm)) (mx.map (evT tm))).run P w) := by
  simp only [Option.bind_eq_some_iff] at h
  obtain ⟨c, h1, h', h2, l, h3, k, h4, h5⟩ := h
  split at h5
  · rename_i hc
    obtain ⟨rfl, rfl, c3, c4⟩ := hc
    simp only [Option.some.injEq, Prod.mk.injEq] at h5
    obtain ⟨rfl, rfl⟩ := h5
    obtain ⟨base, cap, rfl, hcap⟩ : ∃ base cap, a = .slice base k cap ∧ k ≤ cap := by
      cases x <;> simp only [lenSl] at h4 <;> cases h4
      · simp only [VR] at hx; obtain ⟨b, rfl⟩ := hx; exact ⟨b, 0, rfl, Nat.le_refl _⟩
      · simp only [VR] at hx; obtain ⟨b, cap, rfl, h6, _⟩ := hx; exact ⟨b, cap, rfl, h6⟩
      · simp only [VR] at hx; obtain ⟨b, n, cap, _, rfl, h6, _⟩ := hx; exact ⟨_, cap, rfl, h6⟩
    have q1 := bnd_ok he hmx h1
    have q2 := bnd_ok he hhi h2
    have q3 := bnd_ok he hlo h3
    rcases q1 with ⟨rfl, _⟩ | ⟨y1, k1, rfl, e1⟩
    · simp [opdO] at hmx
    · rcases q2 with ⟨rfl, _⟩ | ⟨y2, k2, rfl, e2⟩
      · simp only [opdO, Option.some.injEq] at hhi
        subst hhi
        cases c3
      · refine GoodV.pure hw (v' := .slice base 0 0) (by simp [VR]) ?_
        rcases q3 with ⟨rfl, rfl⟩ | ⟨y3, k3, rfl, e3⟩
        · simp [Go.Instr.sliceAt, Go.Instr.slice, Go.run_underlying ht, run_sizeOf hn, Go.Instr.sliceBounds, e1, e2, run_bound0]
        · simp [Go.Instr.sliceAt, Go.Instr.slice, Go.run_underlying ht, run_sizeOf hn, Go.Instr.sliceBounds, e1, e2, e3, run_bound (P := P) (w := w) (k := k1) (Nat.le_trans c4 hcap), run_bound (P := P) (w := w) (k := k2) (Nat.le_refl h'), run_bound (P := P) (w := w) (k := k3) (Nat.le_refl h')]
  · cases h5

theorem good_sa (hw : WR P g m w) {e : Env} {tm : Array Value} (he : ER g e tm) {t et n len : Nat} (ht : P.underlying t = some (.array len et)) (hn : sizeIn P et = some n) {x v : V} {a : Value} {ws : Ws} (hx : VR g.ro x g.rho a)
    {lo hi : Option Operand} {lo' hi' : Option Opd} (hlo : opdO lo = some lo') (hhi : opdO hi = some hi')
    (h : (match (generalizing := false) x with
      | .p b off => (bnd e hi' len).bind fun h => (bnd e lo' 0).bind fun l =>
        match m b with
        | some (.cells cs _) =>
          if l ≤ h ∧ h ≤ len ∧ off + len * n ≤ cs.length then
            (if l = 0 then some (V.ms b off h n, ([] : Ws)) else if h = l then some (.sl [] 0, []) else some (.ms b (off + l * n) (h - l) n, []))
          else none
        | _ => none
      | _ => none) = some (v, ws)) : GoodV P g m w slot v ws ((Go.Instr.sliceAt t a (lo.map (evT tm)) (hi.map (evT tm)) none).run P w) := by
  cases x with
  | p b off =>
    simp only [Option.bind_eq_some_iff] at h
    obtain ⟨h', h2, l, h3, h4⟩ := h
    split at h4
    · rename_i cs r hml
      split at h4
      · rename_i hc
        obtain ⟨c1, c2, c3⟩ := hc
        simp only [VR] at hx
        obtain ⟨bl, nn, k1, rfl⟩ := hx
        obtain ⟨b', n', k1', arr, ee, f, f1, f2, f3, f4, f5, f6⟩ := hw.obj b _ hml
        rw [k1] at k1'
        cases k1'
        have hlen := f4.len
        simp only [Array.length_toList] at hlen
        have hrun : (Go.Instr.sliceAt t (.pointer (some ⟨bl, off, none⟩)) (lo.map (evT tm)) (hi.map (evT tm)) none).run P w =
            .ok (.slice (some (if len = l then ⟨bl, off, none⟩ else (⟨bl, off, none⟩ : Addr).add (l * n))) (h' - l) (len - l)) w := by
          simp [Go.Instr.sliceAt, Go.Instr.sureAddr, Go.run_underlying ht, run_sizeOf hn, run_bounds (P := P) (w := w) he hlo hhi h2 h3 c1 c2]
        split at h4
        · rename_i hl
          subst hl
          simp only [Option.some.injEq, Prod.mk.injEq] at h4
          obtain ⟨rfl, rfl⟩ := h4
          refine GoodV.pure hw ?_ hrun
          simp only [VR]
          refine ⟨bl, nn, len, k1, ?_, by omega, by omega⟩
          simp [add_none]
        · rename_i hl
          split at h4
          · rename_i hh
            simp only [Option.some.injEq, Prod.mk.injEq] at h4
            obtain ⟨rfl, rfl⟩ := h4
            refine GoodV.pure hw ?_ hrun
            simp only [VR]
            exact ⟨_, _, by rw [hh, Nat.sub_self], by omega, .inl (by simp)⟩
          · rename_i hh
            simp only [Option.some.injEq, Prod.mk.injEq] at h4
            obtain ⟨rfl, rfl⟩ := h4
            refine GoodV.pure hw ?_ hrun
            simp only [VR]
            refine ⟨bl, nn, len - l, k1, ?_, by omega, ?_⟩
            · rw [if_neg (by omega), add_none]
            · have : (len - l) * n = len * n - l * n := Nat.sub_mul _ _ _
              have : l * n ≤ len * n := Nat.mul_le_mul_right _ (by omega)
              omega
      · cases h4
    · cases h4
  | _ => cases h

theorem good_fieldAddr (hw : WR P g m w) {t n k : Nat} {fs : Array Go.Field} (ht : P.underlying t = some (.struct fs)) {f : Go.Field} (hf : fs[k]? = some f) (hn : sizeIn P f.type = some n) (h1 : 1 ≤ n) {x v : V} {a : Value} {ws : Ws} (hx : VR g.ro x g.rho a)
    (h : (match (generalizing := false) x with
      | .p l o => some (V.p l (o + f.offset), ([] : Ws))
      | .rp cs => some (.rp (cs.drop f.offset), [])
      | _ => none) = some (v, ws)) : GoodV P g m w slot v ws ((Go.Instr.fieldAt t a k).run P w) := by
  have hne : ¬ (n = 0) := by omega
  cases x with
  | p l o =>
    simp only [Option.some.injEq, Prod.mk.injEq] at h
    obtain ⟨rfl, rfl⟩ := h
    simp only [VR] at hx
    obtain ⟨b, nn, k1, rfl⟩ := hx
    refine GoodV.pure hw (v' := .pointer (some ⟨b, o + f.offset, none⟩)) (by simp only [VR]; exact ⟨b, nn, k1, rfl⟩) ?_
    simp [Go.Instr.fieldAt, Go.run_underlying ht, hf, Go.Instr.sureAddr, Go.fieldPlace, run_sizeOf hn, hne, add_none]
  | rp cs =>
    simp only [Option.some.injEq, Prod.mk.injEq] at h
    obtain ⟨rfl, rfl⟩ := h
    simp only [VR] at hx
    obtain ⟨b, o, arr, e, ff, rfl, k1, k2, k3⟩ := hx
    refine GoodV.pure hw (v' := .pointer (some ⟨b, o + f.offset, none⟩)) ?_ ?_
    · simp only [VR]
      refine ⟨b, _, arr, e, ff, rfl, k1, k2.part (by simp), ?_⟩
      have := k3.drop f.offset
      rwa [List.drop_drop] at this
    · simp [Go.Instr.fieldAt, Go.run_underlying ht, hf, Go.Instr.sureAddr, Go.fieldPlace, run_sizeOf hn, hne, add_none]
  | _ => cases h

theorem run_part {t n o : Nat} {ag : Bool} (hg : aggOf P t = some ag) (hn : sizeIn P t = some n) {cs : List V} {arr : Array Value} {ro : Ro} {h : Rho} {v : V} (hp : PR ro cs h arr.toList) (h1 : OneL arr.toList) (hv : getPart ag n cs o = some v) :
    ∃ v', (Go.part t arr o).run P w = .ok v' w ∧ VR ro v h v' := by
  obtain ⟨v', h2, h3⟩ := part_rel hp h1 hv
  refine ⟨v', ?_, h3⟩
  cases ag with
  | true =>
    simp only [if_true] at h2
    obtain ⟨h4, rfl⟩ := h2
    simp only [Go.part, Sem.run_bind, run_isAgg hg, Result.andThen_ok, if_true, run_sizeOf hn, Sem.run_pure]
    congr 2
    apply Array.ext'
    simp only [Array.toList_extract, List.extract_eq_take_drop]
    rw [show o + n - o = n by omega]
  | false =>
    simp only [Bool.false_eq_true, if_false] at h2
    simp [Go.part, run_isAgg hg, h2]

theorem good_field (hw : WR P g m w) {t n k : Nat} {ag : Bool} {fs : Array Go.Field} (ht : P.underlying t = some (.struct fs)) {f : Go.Field} (hf : fs[k]? = some f) (hg : aggOf P f.type = some ag) (hn : sizeIn P f.type = some n) {x v : V} {a : Value} {ws : Ws} (hx : VR g.ro x g.rho a)
    (h : (match (generalizing := false) x with
      | .ag cs => (getPart ag n cs f.offset).map fun v => (v, ([] : Ws))
      | _ => none) = some (v, ws)) : GoodV P g m w slot v ws ((Go.Instr.field t a k).run P w) := by
  cases x with
  | ag cs =>
    simp only [Option.map_eq_some_iff, Prod.mk.injEq] at h
    obtain ⟨u, h1, rfl, rfl⟩ := h
    simp only [VR] at hx
    obtain ⟨arr, rfl, h2, h3, h4⟩ := hx
    obtain ⟨v', h5, h6⟩ := run_part (P := P) (w := w) hg hn h4 h3 h1
    refine GoodV.pure hw h6 ?_
    simp [Go.Instr.field, Go.run_underlying ht, hf, Go.asAgg, h5]
  | _ => cases h

theorem good_ia (hw : WR P g m w) {t et n : Nat} (ht : P.underlying t = some (.slice et)) (hn : sizeIn P et = some n) {x y v : V} {a b : Value} {ws : Ws} (hx : VR g.ro x g.rho a) (hy : VR g.ro y g.rho b)
    (h : (match (generalizing := false) x, y with
      | .sl cs len, .i _ k => if 0 ≤ k ∧ k < len then some (V.rp ((cs.drop (k.toNat * n)).take n), ([] : Ws)) else none
      | .ms l off len esz', .i _ k => if 0 ≤ k ∧ k < len ∧ esz' = n then some (.p l (off + k.toNat * n), []) else none
      | _, _ => none) = some (v, ws)) : GoodV P g m w slot v ws ((Go.Instr.indexAt t a b).run P w) := by
  cases x with
  | sl cs len =>
    cases y with
    | i kk k =>
      simp only at h
      split at h
      · rename_i hc
        simp only [Option.some.injEq, Prod.mk.injEq] at h
        obtain ⟨rfl, rfl⟩ := h
        simp only [VR] at hx hy
        subst hy
        obtain ⟨base, cap, rfl, k1, k2⟩ := hx
        rcases k2 with ⟨_, h0⟩ | ⟨bl, o, arr, e, f, rfl, k3, k4, k5⟩
        · omega
        · refine GoodV.pure hw (v' := .pointer (some ⟨bl, o + k.toNat * n, none⟩)) ?_ ?_
          · simp only [VR]
            refine ⟨bl, _, arr, e, f, rfl, k3, k4.part (by simp [List.length_take, List.length_drop]; omega), ?_⟩
            have := (k5.drop (k.toNat * n)).takeL n
            rwa [List.drop_drop] at this
          · simp [Go.Instr.indexAt, Go.asIntOf, Go.run_underlying ht, run_sizeOf hn, hc, add_none]
      · cases h
    | _ => cases h
  | ms l off len esz' =>
    cases y with
    | i kk k =>
      simp only at h
      split at h
      · rename_i hc
        obtain ⟨c1, c2, rfl⟩ := hc
        simp only [Option.some.injEq, Prod.mk.injEq] at h
        obtain ⟨rfl, rfl⟩ := h
        simp only [VR] at hx hy
        subst hy
        obtain ⟨bl, nn, cap, k1, rfl, k2, k3⟩ := hx
        refine GoodV.pure hw (v' := .pointer (some ⟨bl, off + k.toNat * esz', none⟩)) (by simp only [VR]; exact ⟨bl, nn, k1, rfl⟩) ?_
        simp [Go.Instr.indexAt, Go.asIntOf, Go.run_underlying ht, run_sizeOf hn, c1, c2, add_none]
      · cases h
    | _ => cases h
  | _ => cases y <;> cases h

theorem good_iz (hw : WR P g m w) {t et n len : Nat} (ht : P.underlying t = some (.array len et)) (hn : sizeIn P et = some n) {x y v : V} {a b : Value} {ws : Ws} (hx : VR g.ro x g.rho a) (hy : VR g.ro y g.rho b)
    (h : (match (generalizing := false) x, y with
      | .p l off, .i _ k => if 0 ≤ k ∧ k < len then some (V.p l (off + k.toNat * n), ([] : Ws)) else none
      | .rp cs, .i _ k => if 0 ≤ k ∧ k < len then some (.rp (cs.drop (k.toNat * n)), []) else none
      | _, _ => none) = some (v, ws)) : GoodV P g m w slot v ws ((Go.Instr.indexAt t a b).run P w) := by
  cases x with
  | p l off =>
    cases y with
    | i kk k =>
      simp only at h
      split at h
      · rename_i hc
        simp only [Option.some.injEq, Prod.mk.injEq] at h
        obtain ⟨rfl, rfl⟩ := h
        simp only [VR] at hx hy
        subst hy
        obtain ⟨bl, nn, k1, rfl⟩ := hx
        refine GoodV.pure hw (v' := .pointer (some ⟨bl, off + k.toNat * n, none⟩)) (by simp only [VR]; exact ⟨bl, nn, k1, rfl⟩) ?_
        simp [Go.Instr.indexAt, Go.asIntOf, Go.run_underlying ht, run_sizeOf hn, hc, add_none, Go.Instr.sureAddr]
      · cases h
    | _ => cases h
  | rp cs =>
    cases y with
    | i kk k =>
      simp only at h
      split at h
      · rename_i hc
        simp only [Option.some.injEq, Prod.mk.injEq] at h
        obtain ⟨rfl, rfl⟩ := h
        simp only [VR] at hx hy
        subst hy
        obtain ⟨bl, o, arr, e, f, rfl, k3, k4, k5⟩ := hx
        refine GoodV.pure hw (v' := .pointer (some ⟨bl, o + k.toNat * n, none⟩)) ?_ ?_
        · simp only [VR]
          refine ⟨bl, _, arr, e, f, rfl, k3, k4.part (by simp [List.length_take, List.length_drop] <;> omega), ?_⟩
          have := k5.drop (k.toNat * n)
          rwa [List.drop_drop] at this
        · simp [Go.Instr.indexAt, Go.asIntOf, Go.run_underlying ht, run_sizeOf hn, hc, add_none, Go.Instr.sureAddr]
      · cases h
    | _ => cases h
  | _ => cases y <;> cases h

theorem good_xa (hw : WR P g m w) {t et n len : Nat} {ag : Bool} (ht : P.underlying t = some (.array len et)) (hg : aggOf P et = some ag) (hn : sizeIn P et = some n) {x y v : V} {a b : Value} {ws : Ws} (hx : VR g.ro x g.rho a) (hy : VR g.ro y g.rho b)
    (h : (match (generalizing := false) x, y with
      | .ag cs, .i _ k => if 0 ≤ k ∧ k < len then (getPart ag n cs (k.toNat * n)).map fun v => (v, ([] : Ws)) else none
      | _, _ => none) = some (v, ws)) : GoodV P g m w slot v ws ((Go.Instr.index t a b).run P w) := by
  cases x with
  | ag cs =>
    cases y with
    | i kk k =>
      simp only at h
      split at h
      · rename_i hc
        simp only [Option.map_eq_some_iff, Prod.mk.injEq] at h
        obtain ⟨u, h1, rfl, rfl⟩ := h
        simp only [VR] at hx hy
        subst hy
        obtain ⟨arr, rfl, h2, h3, h4⟩ := hx
        obtain ⟨v', h5, h6⟩ := run_part (P := P) (w := w) hg hn h4 h3 h1
        refine GoodV.pure hw h6 ?_
        simp [Go.Instr.index, Go.asIntOf, Go.run_underlying ht, run_sizeOf hn, hc, h5]
      · cases h
    | _ => cases h
  | _ => cases y <;> cases h

theorem good_xs (hw : WR P g m w) {t : Nat} (ht : P.underlying t = some .string) {x y v : V} {a b : Value} {ws : Ws} (hx : VR g.ro x g.rho a) (hy : VR g.ro y g.rho b)
    (h : (match (generalizing := false) x, y with
      | .s a, .i _ n => if 0 ≤ n then (a[n.toNat]?).map fun c => (V.i .u8 c.toNat, ([] : Ws)) else none
      | _, _ => none) = some (v, ws)) : GoodV P g m w slot v ws ((Go.Instr.index t a b).run P w) := by
  cases x with
  | s s =>
    cases y with
    | i kk k =>
      simp only at h
      split at h
      · rename_i hc
        simp only [Option.map_eq_some_iff, Prod.mk.injEq] at h
        obtain ⟨u, h1, rfl, rfl⟩ := h
        simp only [VR] at hx hy
        subst hx; subst hy
        refine GoodV.pure hw (v' := .int .u8 u.toNat) (by simp [VR]) ?_
        simp [Go.Instr.index, Go.asIntOf, Go.run_underlying ht, hc, h1]
      · cases h
    | _ => cases h
  | _ => cases y <;> cases h

end
end Pi
