/- The machine's operations against the pure ones: numbers, texts, and all of them together. -/
import Derived.Test.YtglibfclhecbkaaYPiA
import Derived.Laws.BytesString
import Derived.Lib.ConvBytes
set_option linter.unusedSimpArgs false
namespace Pi
open Go (IntKind TypeId FuncId Fn BinOp UnOp LoopState Value Addr World Program undef Operand Sem Result)

section
variable {P : Program} {g : G} {m : Sto} {w : World} {slot : Nat}

theorem good_ta (hw : WR P g m w) {t xt : TypeId} (ht : ∃ d, P.underlying t = some d ∧ (∀ ms, d ≠ .interface ms)) {z : V} (hz : zeroV P t = some z) {x v : V} {a : Value} {ws : Ws} {ok : Bool} (hx : VR g.ro x g.rho a)
    (h : (match (generalizing := false) x with
      | .fc t' v => if t' = t then some (if ok then V.tu [v, .b true] else v, ([] : Ws)) else if ok then some (.tu [z, .b false], []) else none
      | .ni => if ok then some (.tu [z, .b false], []) else none
      | _ => none) = some (v, ws)) : GoodV P g m w slot v ws ((Go.Instr.typeAssert a xt t ok).run P w) := by
  obtain ⟨d, hu, hd⟩ := ht
  obtain ⟨zv, z1, z2⟩ := zeroV_ok hz g.ro g.rho
  cases x with
  | fc t' y =>
    simp only at h
    simp only [VR] at hx
    obtain ⟨y', rfl, k1⟩ := hx
    by_cases e : t' = t
    · subst e
      rw [if_pos rfl] at h
      simp only [Option.some.injEq, Prod.mk.injEq] at h
      obtain ⟨rfl, rfl⟩ := h
      refine GoodV.pure hw (v' := if ok then .tuple #[y', .bool true] else y') ?_ ?_
      · cases ok with
        | true => simp only [if_true, VR]; exact ⟨_, rfl, rfl, ⟨_, _, rfl, k1, ⟨_, _, rfl, rfl, trivial⟩⟩⟩
        | false => exact k1
      · cases d <;> first | exact absurd rfl (hd _) | simp [Go.Instr.typeAssert, Go.run_underlying hu]
    · rw [if_neg e] at h
      cases ok with
      | false => simp at h
      | true =>
        simp only [if_true, Option.some.injEq, Prod.mk.injEq] at h
        obtain ⟨rfl, rfl⟩ := h
        refine GoodV.pure hw (v' := .tuple #[zv, .bool false]) ?_ ?_
        · simp only [VR]; exact ⟨_, rfl, rfl, ⟨_, _, rfl, z2, ⟨_, _, rfl, rfl, trivial⟩⟩⟩
        · cases d <;> first | exact absurd rfl (hd _) | simp [Go.Instr.typeAssert, Go.run_underlying hu, e, run_zero z1]
  | ni =>
    simp only at h
    simp only [VR] at hx
    subst hx
    cases ok with
    | false => simp at h
    | true =>
      simp only [if_true, Option.some.injEq, Prod.mk.injEq] at h
      obtain ⟨rfl, rfl⟩ := h
      refine GoodV.pure hw (v' := .tuple #[zv, .bool false]) ?_ ?_
      · simp only [VR]; exact ⟨_, rfl, rfl, ⟨_, _, rfl, z2, ⟨_, _, rfl, rfl, trivial⟩⟩⟩
      · cases d <;> first | exact absurd rfl (hd _) | simp [Go.Instr.typeAssert, Go.run_underlying hu, run_zero z1]
  | _ => cases h

theorem good_ex (hw : WR P g m w) {x v : V} {a : Value} {ws : Ws} {j : Nat} (hx : VR g.ro x g.rho a)
    (h : (match (generalizing := false) x with
      | .tu vs => (vs[j]?).map fun v => (v, ([] : Ws))
      | _ => none) = some (v, ws)) : GoodV P g m w slot v ws ((Go.Instr.extract a j).run P w) := by
  cases x with
  | tu vs =>
    simp only [Option.map_eq_some_iff, Prod.mk.injEq] at h
    obtain ⟨u, h1, rfl, rfl⟩ := h
    simp only [VR] at hx
    obtain ⟨arr, rfl, h2, h3⟩ := hx
    obtain ⟨v', h4, h5⟩ := h3.get h1
    refine GoodV.pure hw h5 ?_
    have : arr[j]? = some v' := by simpa using h4
    simp [Go.Instr.extract, this]
  | _ => cases h

theorem good_len (hw : WR P g m w) {t : TypeId} {us : List TypeId} {k : LK} (hk : (k = .s ∧ P.underlying t = some .string) ∨ (k = .l ∧ ∃ e, P.underlying t = some (.slice e)) ∨ (k = .m ∧ ∃ q e, P.underlying t = some (.map q e)))
    {x : V} {a : Value} (hx : VR g.ro x g.rho a) (ty : TypeId) {n : Nat} (h : lenK m k x = some n) :
    GoodV P g m w slot (.i .i64 n) [] ((Go.Builtin.len_ (t :: us).toArray ty #[a]).run P w) := by
  rcases hk with ⟨rfl, hu⟩ | ⟨rfl, e, hu⟩ | ⟨rfl, q, e, hu⟩
  · cases x <;> simp only [lenK] at h <;> cases h
    rename_i s
    simp only [VR] at hx
    subst hx
    refine GoodV.pure hw (v' := .int .i64 s.size) (by simp [VR]) ?_
    simp [Go.Builtin.len_, Go.run_underlying hu, Go.goInt]
  · cases x <;> simp only [lenK, lenSl] at h <;> cases h
    · simp only [VR] at hx
      obtain ⟨b, rfl⟩ := hx
      refine GoodV.pure hw (v' := .int .i64 0) (by simp [VR]) ?_
      simp [Go.Builtin.len_, Go.run_underlying hu, Go.goInt]
    · simp only [VR] at hx
      obtain ⟨b, cap, rfl, _⟩ := hx
      refine GoodV.pure hw (v' := .int .i64 n) (by simp [VR]) ?_
      simp [Go.Builtin.len_, Go.run_underlying hu, Go.goInt]
    · simp only [VR] at hx
      obtain ⟨b, nn, cap, _, rfl, _⟩ := hx
      refine GoodV.pure hw (v' := .int .i64 n) (by simp [VR]) ?_
      simp [Go.Builtin.len_, Go.run_underlying hu, Go.goInt]
  · cases x with
    | nm =>
      simp only [lenK, Option.some.injEq] at h
      subst h
      simp only [VR] at hx
      subst hx
      refine GoodV.pure hw (v' := .int .i64 0) (by simp [VR]) ?_
      simp [Go.Builtin.len_, Go.run_underlying hu, Go.goInt]
    | rm ks vs =>
      simp only [lenK, Option.some.injEq] at h
      subst h
      simp only [VR] at hx
      rcases hx with ⟨rfl, rfl, rfl⟩ | ⟨b, es, ck, rfl, k1, k2, k3, _, _⟩
      · refine GoodV.pure hw (v' := .int .i64 0) (by simp [VR]) ?_
        simp [Go.Builtin.len_, Go.run_underlying hu, Go.goInt]
      · have hb := hw.keep _ _ (hw.ro _ _ k1)
        refine GoodV.pure hw (v' := .int .i64 es.size) (by simp [VR, k2]) ?_
        simp [Go.Builtin.len_, Go.run_underlying hu, Go.goInt, run_getObj (P := P) hb]
    | mp l =>
      simp only [lenK] at h
      split at h
      · rename_i ks vs r hm
        simp only [Option.some.injEq] at h
        subst h
        simp only [VR] at hx
        obtain ⟨b, n', h1, rfl⟩ := hx
        obtain ⟨b', n'', h2, es, ck, h3, h4, h5, h6, h7, h8⟩ := hw.obj l _ hm
        rw [h1] at h2
        cases h2
        refine GoodV.pure hw (v' := .int .i64 es.size) (by simp [VR, h4]) ?_
        simp [Go.Builtin.len_, Go.run_underlying hu, Go.goInt, run_getObj (P := P) h3]
      · cases h
    | _ => simp [lenK] at h

theorem guard_int (op : BinOp) (t : TypeId) (ox oy : Operand) (k : IntKind) (n : Int) (b : Value) : (Go.eqGuard op t ox oy (.int k n) b).run P w = .ok () w := by
  cases op <;> simp [Go.eqGuard]
theorem guard_str (op : BinOp) (t : TypeId) (ox oy : Operand) (s : ByteArray) (b : Value) : (Go.eqGuard op t ox oy (.string s) b).run P w = .ok () w := by
  cases op <;> simp [Go.eqGuard]
theorem guard_bool (op : BinOp) (t : TypeId) (ox oy : Operand) (s : Bool) (b : Value) : (Go.eqGuard op t ox oy (.bool s) b).run P w = .ok () w := by
  cases op <;> simp [Go.eqGuard]
theorem guard_agg (op : BinOp) (t : TypeId) (ox oy : Operand) (hg : P.eqGuardType P.depth t = false) (s : Array Value) (b : Value) : (Go.eqGuard op t ox oy (.agg s) b).run P w = .ok () w := by
  cases op <;> cases b <;> simp [Go.eqGuard, hg]

def valS : V → Value
  | .b x => .bool x
  | .i k n => .int k n
  | .s x => .string x
  | _ => undef

theorem good_bin (hw : WR P g m w) {op : BinOp} {t : TypeId} {x y v : V} {a b : Value} (hx : VR g.ro x g.rho a) (hy : VR g.ro y g.rho b) (ox oy : Operand)
    (h : bin op x y = some v) : GoodV P g m w slot v [] ((do Go.eqGuard op t ox oy a b; Go.binOp op t a b : Sem Value).run P w) := by
  cases x with
  | i k n =>
    cases y with
    | i k' n' =>
      simp only [VR] at hx hy
      subst hx; subst hy
      have hg := guard_int (P := P) (w := w) op t ox oy k n (.int k' n')
      suffices hs : (Go.binOp op t (.int k n) (.int k' n')).run P w = .ok (valS v) w ∧ VR g.ro v g.rho (valS v) by
        obtain ⟨h1, h2⟩ := hs
        exact GoodV.pure hw h2 (by simp [hg, h1])
      cases op <;> simp only [bin] at h
      case shl =>
        split at h
        · cases h
        · cases h
          exact ⟨by simp [Go.binOp, Go.Op.shift, valS, *], by simp [VR, valS]⟩
      case shr =>
        split at h
        · cases h
        · cases h
          exact ⟨by simp [Go.binOp, Go.Op.shift, valS, *], by simp [VR, valS]⟩
      all_goals
        split at h
        · rename_i e
          subst e
          simp only [binI] at h
          first
          | (cases h; exact ⟨by simp [Go.binOp, Go.Op.intArith, Go.Op.intBits, Go.Op.intCmp, valS], by simp [VR, valS]⟩)
          | (split at h
             · cases h
             · rename_i hb
               cases h
               exact ⟨by simp [Go.binOp, Go.Op.intDiv, hb, valS], by simp [VR, valS]⟩)
        · cases h
    | _ => simp [bin] at h
  | s s =>
    cases y with
    | s s' =>
      simp only [VR] at hx hy
      subst hx; subst hy
      have hg := guard_str (P := P) (w := w) op t ox oy s (.string s')
      suffices hs : (Go.binOp op t (.string s) (.string s')).run P w = .ok (valS v) w ∧ VR g.ro v g.rho (valS v) by
        obtain ⟨h1, h2⟩ := hs
        exact GoodV.pure hw h2 (by simp [hg, h1])
      cases op <;> simp only [bin] at h
      case add =>
        split at h
        · rename_i hb
          cases h
          have hmax : ¬ (((s.size + s'.size : Nat) : Int) > IntKind.i64.max) := by
            unfold BIG at hb
            have : IntKind.i64.max = 9223372036854775807 := by decide
            rw [this]
            omega
          refine ⟨?_, by simp [VR, valS]⟩
          simp only [Go.binOp, Go.Op.stringOp]
          rw [if_neg hmax]
          rfl
        · cases h
      case eql => cases h; exact ⟨by simp only [Go.binOp, Go.Op.stringOp]; rfl, by simp [VR, valS]⟩
      case neq => cases h; exact ⟨by simp only [Go.binOp, Go.Op.stringOp]; rfl, by simp [VR, valS]⟩
      all_goals cases h
    | _ => simp [bin] at h
  | _ => simp [bin] at h

theorem good_eq (hw : WR P g m w) {neg : Bool} {op : BinOp} (hop : op = if neg then .neq else .eql) {t : TypeId} {q : Q} (hq : qOf P t = some q) (hgt : P.eqGuardType P.depth t = false) (hi : ∀ k, P.underlying t ≠ some (.int k)) (hs : P.underlying t ≠ some .string)
    {x y v : V} {a b : Value} {ws : Ws} (hx : VR g.ro x g.rho a) (hy : VR g.ro y g.rho b) (ox oy : Operand)
    (h : (eqQ q x y).map (fun c => (V.b (if neg then !c else c), ([] : Ws))) = some (v, ws)) : GoodV P g m w slot v ws ((do Go.eqGuard op t ox oy a b; Go.binOp op t a b : Sem Value).run P w) := by
  simp only [Option.map_eq_some_iff, Prod.mk.injEq] at h
  obtain ⟨c, h1, rfl, rfl⟩ := h
  have heq := equal_sound (P := P) (w := w) h1 hx hy hq
  have shape : (∃ p r, a = .bool p ∧ b = .bool r) ∨ (∃ p r, a = .agg p ∧ b = .agg r) := by
    cases q with
    | one k =>
      have hk := qOf_one hq
      unfold kindT at hk
      split at hk
      · rename_i kk hu; exact absurd hu (hi kk)
      · cases hk
        cases x <;> cases y <;> simp [eqQ, eqK] at h1
        simp only [VR] at hx hy
        exact .inl ⟨_, _, hx, hy⟩
      · rename_i hu; exact absurd hu hs
      · cases hk
    | many ks =>
      cases x <;> cases y <;> simp [eqQ] at h1
      simp only [VR] at hx hy
      obtain ⟨p, rfl, _⟩ := hx
      obtain ⟨r, rfl, _⟩ := hy
      exact .inr ⟨_, _, rfl, rfl⟩
  refine GoodV.pure hw (v' := .bool (if neg then !c else c)) (by simp [VR]) ?_
  rcases shape with ⟨p, r, rfl, rfl⟩ | ⟨p, r, rfl, rfl⟩
  · cases neg <;> simp only [hop, if_true, Bool.false_eq_true, if_false] <;> simp [guard_bool, Go.binOp, heq]
  · cases neg <;> simp only [hop, if_true, Bool.false_eq_true, if_false] <;> simp [guard_agg _ _ _ _ hgt, Go.binOp, heq]

theorem good_un (hw : WR P g m w) {op : UnOp} {x v : V} {a : Value} (hx : VR g.ro x g.rho a) (h : una op x = some v) : GoodV P g m w slot v [] ((Go.Op.unary op a).run P w) := by
  unfold una at h
  split at h
  · rename_i b
    cases h
    simp only [VR] at hx
    subst hx
    exact GoodV.pure hw (v' := .bool (!b)) (by simp [VR]) (by simp [Go.Op.unary])
  · rename_i k n
    cases h
    simp only [VR] at hx
    subst hx
    exact GoodV.pure hw (v' := .int k (k.wrap (0 - n))) (by simp [VR]) (by simp [Go.Op.unary, Go.Op.intArith])
  · cases h

theorem fold_max : ∀ (xs : List V) (x v : V) (a : Value) (as : List Value), VR g.ro x g.rho a → PR g.ro xs g.rho as → xs.length = as.length → foldV max2 x xs = some v →
    ∃ v', (as.foldlM Go.Builtin.max2 a : Sem Value).run P w = .ok v' w ∧ VR g.ro v g.rho v'
  | [], x, v, a, as, hx, hp, hl, h => by
    cases as with
    | nil => cases h; exact ⟨a, by simp, hx⟩
    | cons b bs => simp at hl
  | y :: ys, x, v, a, as, hx, hp, hl, h => by
    cases as with
    | nil => simp at hl
    | cons b bs =>
      simp only [PR] at hp
      obtain ⟨_, _, e, hp1, hp2⟩ := hp
      cases e
      simp only [foldV, Option.bind_eq_some_iff] at h
      obtain ⟨z, h1, h2⟩ := h
      cases x <;> cases y <;> simp only [max2] at h1 <;> cases h1
      simp only [VR] at hx hp1
      subst hx; subst hp1
      obtain ⟨v', k1, k2⟩ := fold_max ys _ v _ bs (by simp only [VR]; rfl) hp2 (by simpa using hl) h2
      exact ⟨v', by simpa [Go.Builtin.max2] using k1, k2⟩

theorem fold_min : ∀ (xs : List V) (x v : V) (a : Value) (as : List Value), VR g.ro x g.rho a → PR g.ro xs g.rho as → xs.length = as.length → foldV min2 x xs = some v →
    ∃ v', (as.foldlM Go.Builtin.min2 a : Sem Value).run P w = .ok v' w ∧ VR g.ro v g.rho v'
  | [], x, v, a, as, hx, hp, hl, h => by
    cases as with
    | nil => cases h; exact ⟨a, by simp, hx⟩
    | cons b bs => simp at hl
  | y :: ys, x, v, a, as, hx, hp, hl, h => by
    cases as with
    | nil => simp at hl
    | cons b bs =>
      simp only [PR] at hp
      obtain ⟨_, _, e, hp1, hp2⟩ := hp
      cases e
      simp only [foldV, Option.bind_eq_some_iff] at h
      obtain ⟨z, h1, h2⟩ := h
      cases x <;> cases y <;> simp only [min2] at h1 <;> cases h1
      simp only [VR] at hx hp1
      subst hx; subst hp1
      obtain ⟨v', k1, k2⟩ := fold_min ys _ v _ bs (by simp only [VR]; rfl) hp2 (by simpa using hl) h2
      exact ⟨v', by simpa [Go.Builtin.min2] using k1, k2⟩

theorem bytesOf_ints : ∀ {cs : List V} {l : List UInt8} {ro : Ro} {h : Rho} {vs : List Value}, bytesOf cs = some l → PR ro cs h vs → cs.length = vs.length →
    ∃ ns : List Int, vs = ns.map (Value.int .u8) ∧ l = ns.map fun n => UInt8.ofNat n.toNat
  | [], l, ro, h, vs, hb, _, hl => by
    cases hb
    cases vs with
    | nil => exact ⟨[], rfl, rfl⟩
    | cons a b => simp at hl
  | c :: cs, l, ro, h, vs, hb, hp, hl => by
    obtain ⟨n, rfl⟩ : ∃ n, c = .i .u8 n := by
      clear hp
      unfold bytesOf at hb
      split at hb
      · rename_i e; cases e
      · rename_i e; cases e; exact ⟨_, rfl⟩
      · cases hb
    simp only [bytesOf, Option.map_eq_some_iff] at hb
    obtain ⟨l', h1, rfl⟩ := hb
    simp only [PR] at hp
    obtain ⟨v, r, rfl, h2, h3⟩ := hp
    simp only [VR] at h2
    subst h2
    obtain ⟨ns, rfl, rfl⟩ := bytesOf_ints h1 h3 (by simpa using hl)
    exact ⟨n :: ns, rfl, rfl⟩

theorem pushes (ns : List Int) : ∀ (s : ByteArray), ns.foldl (fun r n => r.push (UInt8.ofNat n.toNat)) s = ⟨s.data ++ (ns.map fun n => UInt8.ofNat n.toNat).toArray⟩ := by
  induction ns with
  | nil => intro s; simp
  | cons n ns ih =>
    intro s
    rw [List.foldl_cons, ih]
    congr 1
    apply Array.ext'
    simp [ByteArray.push]

theorem good_cbs (hw : WR P g m w) {s t et : TypeId} (hs : P.underlying s = some (.slice et)) (ht : P.underlying t = some .string) (he : P.underlying et = some (.int .u8)) {x v : V} {a : Value} {ws : Ws} (hx : VR g.ro x g.rho a)
    (h : ((slCells m 1 x).bind bytesOf).map (fun l => (V.s ⟨l.toArray⟩, ([] : Ws))) = some (v, ws)) : GoodV P g m w slot v ws ((Go.convert s t a).run P w) := by
  simp only [Option.map_eq_some_iff, Option.bind_eq_some_iff, Prod.mk.injEq] at h
  obtain ⟨l, ⟨cs, h1, h2⟩, rfl, rfl⟩ := h
  have key : ∀ {b o len cap : Nat} {arr : Array Value} {e : TypeId} {f : Nat × Nat}, w.heap[b]? = some (.cells arr e f) → PR g.ro cs g.rho (arr.toList.drop o) → cs.length = len → a = .slice (some ⟨b, o, none⟩) len cap →
      GoodV P g m w slot (.s ⟨l.toArray⟩) [] ((Go.convert s t a).run P w) := by
    intro b o len cap arr e f hb hp hl ha
    subst ha
    have hlen := hp.len
    have hp' := hp.take cs.length
    rw [List.take_length] at hp'
    obtain ⟨ns, e1, e2⟩ := bytesOf_ints h2 hp' (by rw [List.length_take]; omega)
    refine GoodV.pure hw (v' := .string ⟨l.toArray⟩) (by simp [VR]) ?_
    rw [Go.run_convert_bytes_string w s t et _ _ _ hs he ht]
    have hload : (Go.loadCells ⟨b, o, none⟩ len).run P w = .ok (ns.map (Value.int .u8)).toArray w := by
      have := Go.run_loadCells_list (P := P) w ⟨b, o, none⟩ (ns.map (Value.int .u8)) (fun j v hj => by
        rw [add_none, cell_of hb]
        rw [← e1, List.getElem?_take] at hj
        split at hj
        · rw [List.getElem?_drop] at hj
          simpa using hj
        · cases hj)
      have hh : (ns.map (Value.int .u8)).length = len := by rw [← e1, List.length_take]; omega
      rwa [hh] at this
    rw [Go.run_bytesToString w _ _ _ ns hload, pushes, e2]
    congr 3
    apply Array.ext'
    simp [ByteArray.empty, ByteArray.emptyWithCapacity]
    rfl
  cases x with
  | ns =>
    simp only [slCells, Option.some.injEq] at h1
    subst h1
    cases h2
    simp only [VR] at hx
    obtain ⟨base, rfl⟩ := hx
    refine GoodV.pure hw (v' := .string ⟨#[]⟩) (by simp [VR]) ?_
    rw [Go.run_convert_bytes_string w s t et _ _ _ hs he ht]
    cases base with
    | none => rfl
    | some b =>
      rw [Go.run_bytesToString w b 0 0 [] (by simp [Go.loadCells, Go.loadCellsFrom])]
      rfl
  | sl cs' len =>
    simp only [slCells] at h1
    split at h1
    · rename_i hl
      cases h1
      simp only [VR] at hx
      obtain ⟨base, cap, rfl, k1, k2⟩ := hx
      rcases k2 with ⟨rfl, rfl⟩ | ⟨b, o, arr, e, f, rfl, k3, k4, k5⟩
      · cases h2
        refine GoodV.pure hw (v' := .string ⟨#[]⟩) (by simp [VR]) ?_
        rw [Go.run_convert_bytes_string w s t et _ _ _ hs he ht]
        cases base with
        | none => rfl
        | some b =>
          rw [Go.run_bytesToString w b 0 cap [] (by simp [Go.loadCells, Go.loadCellsFrom])]
          rfl
      · exact key (hw.keep _ _ (hw.ro _ _ k3)) (PR.mono (RoE.refl _) _ (fun _ _ e => by cases e) k5) (by omega) rfl
    · cases h1
  | ms l' off len esz' =>
    simp only [slCells] at h1
    split at h1
    · rename_i cs' r hm
      split at h1
      · rename_i hc
        obtain ⟨rfl, hc⟩ := hc
        cases h1
        simp only [VR] at hx
        obtain ⟨b, n, cap, h3, rfl, h4, h5⟩ := hx
        obtain ⟨b', n', h3', arr, e, f, h6, h7, h8, h9, h10⟩ := hw.obj l' _ hm
        rw [h3] at h3'
        cases h3'
        exact key h6 ((h9.drop off).takeL _) (by rw [List.length_take, List.length_drop]; omega) rfl
      · cases h1
    · cases h1
  | _ => simp [slCells] at h1

theorem good_csb (hw : WR P g m w) (hm : g.rho slot = none) {s t et : TypeId} (hs : P.underlying s = some .string) (ht : P.underlying t = some (.slice et)) (he : P.underlying et = some (.int .u8)) {x v : V} {a : Value} {ws : Ws} (hx : VR g.ro x g.rho a)
    (h : (match (generalizing := false) x with
      | .s a => if a.size ≤ BIG then some (V.ms slot 0 a.size 1, [(slot, some (PObj.cells (ofBytes a.data.toList) false))]) else none
      | _ => none) = some (v, ws)) : GoodV P g m w slot v ws ((Go.convert s t a).run P w) := by
  cases x with
  | s b =>
    simp only at h
    split at h
    · rename_i hb
      simp only [Option.some.injEq, Prod.mk.injEq] at h
      obtain ⟨rfl, rfl⟩ := h
      simp only [VR] at hx
      subst hx
      have hcap : b.size ≤ Go.grownCap w b.size 0 et := by
        show b.size ≤ Go.Question.cut _ _
        simp [Go.Question.cut]
      have hsz : (Go.Lib.bytesCells w et b).size = Go.grownCap w b.size 0 et := by
        have : b.data.size = b.size := rfl
        simp only [Go.Lib.bytesCells, Array.size_append, Array.size_map, Array.size_replicate]
        omega
      have hnew := Go.Lib.bytesWorld_at_new w et b
      refine ⟨_, Go.Lib.bytesWorld w et b, g.rho.set slot (w.heap.size, (Go.Lib.bytesCells w et b).size), Go.Lib.run_convert_string_bytes w s t et b hs ht he, Rho.set_ext hm, fun l hl => rho_set_ne _ _ hl, ?_, ?_, ⟨rfl, rfl, rfl, by rw [Go.Lib.bytesWorld_size]; omega⟩⟩
      · simp only [VR]
        exact ⟨_, _, _, rho_set_same _ _ _, rfl, hcap, by rw [hsz]; omega⟩
      · refine WR.new hw hm (fun j hj => Go.Lib.bytesWorld_at_old w et b j hj) ?_
        obtain ⟨p1, p2⟩ := ofBytes_rel (ro := g.ro) (h := g.rho.set slot (w.heap.size, (Go.Lib.bytesCells w et b).size)) b.data.toList
        refine ⟨_, _, _, hnew, rfl, ?_, ?_, ?_, ?_⟩
        · intro u hu
          simp only [Go.Lib.bytesCells, Array.toList_append, Array.toList_map, List.mem_append, Array.toList_replicate, List.mem_replicate] at hu
          rcases hu with hu | hu
          · exact p2 u hu
          · rw [hu.2]; rfl
        · have := p1.append (ds := []) (k := (Array.replicate (Go.grownCap w b.size 0 et - b.size) (Value.int .u8 0)).toList) (by simp [ofBytes]) (by simp [PR])
          simpa [Go.Lib.bytesCells] using this
        · intro i hi
          simp only
          omega
        · simp only [Bool.false_eq_true, if_false]
          exact hw.keep_size
    · cases h
  | _ => cases h

end
end Pi
