/- The machine's operations against the pure ones: equality, keys, maps. -/
import Derived.Test.YtglibfclhecbkaaYPi6
namespace Pi
open Go (IntKind TypeId FuncId Fn BinOp UnOp LoopState Value Addr World Program undef Operand Sem Result)

section
variable {P : Program} {g : G} {m : Sto} {w : World} {slot : Nat} {ro : Ro} {h : Rho}

theorem eqK_sound {k : K} {x y : V} {v u : Value} {c : Bool} (he : eqK k x y = some c) (hx : VR ro x h v) (hy : VR ro y h u) {t : TypeId} (hk : kindT P t = some k) (d : Nat) :
    (Go.Op.equalIn (d + 1) t v u).run P w = .ok c w := by
  unfold kindT at hk
  unfold eqK at he
  split at he
  · split at he
    · rename_i k1 a k2 b e
      subst e
      cases he
      simp only [VR] at hx hy
      subst hx; subst hy
      split at hk <;> cases hk
      rename_i kk hu
      simp [Go.Op.equalIn, Go.run_underlying hu]
    · cases he
  · cases he
    simp only [VR] at hx hy
    subst hx; subst hy
    split at hk <;> cases hk
    rename_i hu
    simp [Go.Op.equalIn, Go.run_underlying hu]
  · cases he
    simp only [VR] at hx hy
    subst hx; subst hy
    split at hk <;> cases hk
    rename_i hu
    simp [Go.Op.equalIn, Go.run_underlying hu]
  · cases he

theorem run_part_one {t : TypeId} (hg : aggOf P t = some false) {xs : Array Value} {n : Nat} {v : Value} (hv : xs[n]? = some v) : (Go.part t xs n).run P w = .ok v w := by
  simp [Go.part, run_isAgg hg, hv]

theorem eqFields (d : Nat) (xs ys : Array Value) : ∀ (fs : List Go.Field) (n : Nat) (ks : List K) (cs ds : List V) (c : Bool), fieldsK P fs n = some ks → eqL ks cs ds = some c →
    PR ro cs h (xs.toList.drop n) → PR ro ds h (ys.toList.drop n) →
    (forIn fs ((none, ()) : Option Bool × Unit) fun (f : Go.Field) (_ : Option Bool × Unit) =>
      if f.name ≠ "_" then do
        let a ← Go.part f.type xs f.offset
        let b ← Go.part f.type ys f.offset
        let r ← Go.Op.equalIn (d + 1) f.type a b
        if (!r) = true then pure (ForInStep.done (some false, ())) else pure (ForInStep.yield (none, ()))
      else pure (ForInStep.yield (none, ())) : Sem (Option Bool × Unit)).run P w = .ok (if c then (none, ()) else (some false, ())) w
  | [], n, ks, cs, ds, c, hk, he, _, _ => by
    cases hk
    unfold eqL at he
    split at he <;> simp_all
  | f :: fs, n, ks, cs, ds, c, hk, he, hx, hy => by
    simp only [fieldsK] at hk
    split at hk
    · rename_i hf
      obtain ⟨f1, f2, f3⟩ := hf
      simp only [Option.bind_eq_some_iff, Option.map_eq_some_iff] at hk
      obtain ⟨k, k1, l, k2, rfl⟩ := hk
      cases cs with
      | nil => cases ds <;> simp [eqL] at he
      | cons x cs =>
        cases ds with
        | nil => simp [eqL] at he
        | cons y ds =>
          simp only [eqL, Option.bind_eq_some_iff, Option.map_eq_some_iff] at he
          obtain ⟨c1, e1, c2, e2, rfl⟩ := he
          simp only [PR] at hx hy
          obtain ⟨v, r, hv1, hv2, hv3⟩ := hx
          obtain ⟨u, s, hu1, hu2, hu3⟩ := hy
          have gx : xs[n]? = some v := by
            have := congrArg (·[0]?) hv1
            simpa [List.getElem?_drop] using this
          have gy : ys[n]? = some u := by
            have := congrArg (·[0]?) hu1
            simpa [List.getElem?_drop] using this
          have dx : xs.toList.drop (n + 1) = r := by
            rw [← List.drop_drop, hv1]; rfl
          have dy : ys.toList.drop (n + 1) = s := by
            rw [← List.drop_drop, hu1]; rfl
          have ih := eqFields d xs ys fs (n + 1) l cs ds c2 k2 e2 (by rw [dx]; exact hv3) (by rw [dy]; exact hu3)
          subst f2
          simp only [List.forIn_cons, Sem.run_bind]
          rw [if_pos f1]
          simp only [Sem.run_bind, run_part_one f3 gx, run_part_one f3 gy, Result.andThen_ok, eqK_sound e1 hv2 hu2 k1 d]
          cases c1 with
          | true => simpa using ih
          | false => simp
    · cases hk

theorem eqCells (d : Nat) {et : TypeId} (hs : sizeIn P et = some 1) (hg : aggOf P et = some false) {k : K} (hk : kindT P et = some k) (xs ys : Array Value) : ∀ (len n : Nat) (cs ds : List V) (c : Bool),
    eqL (List.replicate len k) cs ds = some c → PR ro cs h (xs.toList.drop n) → PR ro ds h (ys.toList.drop n) →
    (forIn (List.range' n len) ((none, ()) : Option Bool × Unit) fun (i : Nat) (_ : Option Bool × Unit) => do
        let a ← Go.part et xs (i * 1)
        let b ← Go.part et ys (i * 1)
        let r ← Go.Op.equalIn (d + 1) et a b
        if (!r) = true then pure (ForInStep.done (some false, ())) else pure (ForInStep.yield (none, ())) : Sem (Option Bool × Unit)).run P w = .ok (if c then (none, ()) else (some false, ())) w
  | 0, n, cs, ds, c, he, _, _ => by
    simp only [List.replicate] at he
    unfold eqL at he
    split at he <;> simp_all
  | len + 1, n, cs, ds, c, he, hx, hy => by
      cases cs with
      | nil => cases ds <;> simp [eqL, List.replicate] at he
      | cons x cs =>
        cases ds with
        | nil => simp [eqL, List.replicate] at he
        | cons y ds =>
          simp only [List.replicate, eqL, Option.bind_eq_some_iff, Option.map_eq_some_iff] at he
          obtain ⟨c1, e1, c2, e2, rfl⟩ := he
          simp only [PR] at hx hy
          obtain ⟨v, r, hv1, hv2, hv3⟩ := hx
          obtain ⟨u, s, hu1, hu2, hu3⟩ := hy
          have gx : xs[n]? = some v := by
            have := congrArg (·[0]?) hv1
            simpa [List.getElem?_drop] using this
          have gy : ys[n]? = some u := by
            have := congrArg (·[0]?) hu1
            simpa [List.getElem?_drop] using this
          have dx : xs.toList.drop (n + 1) = r := by
            rw [← List.drop_drop, hv1]; rfl
          have dy : ys.toList.drop (n + 1) = s := by
            rw [← List.drop_drop, hu1]; rfl
          have ih := eqCells d hs hg hk xs ys len (n + 1) cs ds c2 e2 (by rw [dx]; exact hv3) (by rw [dy]; exact hu3)
          simp only [List.range'_succ, List.forIn_cons, Sem.run_bind, Nat.mul_one, run_part_one hg gx, run_part_one hg gy, Result.andThen_ok, eqK_sound e1 hv2 hu2 hk d]
          cases c1 with
          | true => simpa using ih
          | false => simp

theorem qOf_one {t : TypeId} {k : K} (hq : qOf P t = some (.one k)) : kindT P t = some k := by
  unfold qOf at hq
  unfold kindT
  split at hq
  · rename_i hu; rw [hu]; cases hq; rfl
  · rename_i hu; rw [hu]; cases hq; rfl
  · rename_i hu; rw [hu]; cases hq; rfl
  · split at hq
    · cases hq
    · simp [Option.map_eq_some_iff] at hq
  · split at hq
    · simp [Option.map_eq_some_iff] at hq
    · cases hq
  · cases hq

theorem eqQ_sound {q : Q} {x y : V} {v u : Value} {c : Bool} (he : eqQ q x y = some c) (hx : VR ro x h v) (hy : VR ro y h u) {t : TypeId} (hq : qOf P t = some q) (d : Nat) :
    (Go.Op.equalIn (d + 2) t v u).run P w = .ok c w := by
  cases q with
  | one k => exact eqK_sound he hx hy (qOf_one hq) (d + 1)
  | many ks =>
    unfold eqQ at he
    split at he
    · rename_i hh; cases hh
    · rename_i ks' cs ds hh
      cases hh
      simp only [VR] at hx hy
      obtain ⟨xs, rfl, lx, ox, px⟩ := hx
      obtain ⟨ys, rfl, ly, oy, py⟩ := hy
      unfold qOf at hq
      split at hq
      · cases hq
      · cases hq
      · cases hq
      · rename_i fs hu
        split at hq
        · cases hq
        · rename_i hst
          simp only [Option.map_eq_some_iff] at hq
          obtain ⟨l, k1, k2⟩ := hq
          cases k2
          have := eqFields (P := P) (w := w) d xs ys fs.toList 0 ks cs ds c k1 he (by simpa using px) (by simpa using py)
          rw [Go.Op.equalIn]
          simp only [Sem.run_bind, Go.run_underlying hu, Result.andThen_ok, Go.run_program, hst, if_false, Bool.false_eq_true]
          rw [← Array.forIn_toList, this]
          cases c <;> simp
      · rename_i n et hu
        split at hq
        · rename_i hc
          obtain ⟨h1, h2⟩ := hc
          simp only [Option.map_eq_some_iff] at hq
          obtain ⟨k, k1, k2⟩ := hq
          cases k2
          have := eqCells (P := P) (w := w) d h1 h2 k1 xs ys n 0 cs ds c he (by simpa using px) (by simpa using py)
          rw [Go.Op.equalIn]
          simp only [Sem.run_bind, Go.run_underlying hu, Result.andThen_ok, run_sizeOf h1]
          rw [Std.Legacy.Range.forIn_eq_forIn_range']
          rw [show List.range' [:n].start [:n].size [:n].step = List.range' 0 n by simp [Std.Legacy.Range.size]]
          rw [this]
          cases c <;> simp
        · cases hq
      · cases hq
    · cases he

theorem equal_sound {q : Q} {x y : V} {v u : Value} {c : Bool} (he : eqQ q x y = some c) (hx : VR ro x h v) (hy : VR ro y h u) {t : TypeId} (hq : qOf P t = some q) :
    (Go.Op.equal t v u).run P w = .ok c w := eqQ_sound he hx hy hq 9998

/-- A key that may be compared with itself may be a key. -/
theorem keyFields (d : Nat) (em : Bool) (xs : Array Value) : ∀ (fs : List Go.Field) (n : Nat) (ks : List K) (cs : List V), fieldsK P fs n = some ks → (eqL ks cs cs).isSome →
    PR ro cs h (xs.toList.drop n) →
    (forIn fs PUnit.unit fun (f : Go.Field) (_ : PUnit) =>
      if f.name ≠ "_" then do
        let a ← Go.part f.type xs f.offset
        Go.Instr.checkKey em (d + 1) f.type a
        pure (ForInStep.yield PUnit.unit)
      else pure (ForInStep.yield PUnit.unit) : Sem PUnit).run P w = .ok PUnit.unit w
  | [], n, ks, cs, hk, he, _ => by simp
  | f :: fs, n, ks, cs, hk, he, hx => by
    simp only [fieldsK] at hk
    split at hk
    · rename_i hf
      obtain ⟨f1, f2, f3⟩ := hf
      simp only [Option.bind_eq_some_iff, Option.map_eq_some_iff] at hk
      obtain ⟨k, k1, l, k2, rfl⟩ := hk
      cases cs with
      | nil => simp [eqL] at he
      | cons x cs =>
        simp only [PR] at hx
        obtain ⟨v, r, hv1, hv2, hv3⟩ := hx
        have gx : xs[n]? = some v := by
          have := congrArg (·[0]?) hv1
          simpa [List.getElem?_drop] using this
        have dx : xs.toList.drop (n + 1) = r := by
          rw [← List.drop_drop, hv1]; rfl
        have he' : (eqL l cs cs).isSome := by
          simp only [eqL] at he
          cases e1 : eqK k x x with
          | none => simp [e1] at he
          | some c => simpa [e1] using he
        have ih := keyFields d em xs fs (n + 1) l cs k2 he' (by rw [dx]; exact hv3)
        subst f2
        simp only [List.forIn_cons, Sem.run_bind]
        rw [if_pos f1]
        have hck : (Go.Instr.checkKey em (d + 1) f.type v).run P w = .ok () w := by
          unfold kindT at k1
          split at k1 <;> cases k1 <;> rename_i hu <;> simp [Go.Instr.checkKey, Go.run_underlying hu]
        simp only [Sem.run_bind, run_part_one f3 gx, Result.andThen_ok, hck, Sem.run_pure, ih]
    · cases hk

theorem keyCells (d : Nat) (em : Bool) {et : TypeId} (hs : sizeIn P et = some 1) (hg : aggOf P et = some false) {k : K} (hk : kindT P et = some k) (xs : Array Value) : ∀ (len n : Nat) (cs : List V),
    (eqL (List.replicate len k) cs cs).isSome → PR ro cs h (xs.toList.drop n) →
    (forIn (List.range' n len) PUnit.unit fun (i : Nat) (_ : PUnit) => do
        let s ← Go.sizeOf et
        let a ← Go.part et xs (i * s)
        Go.Instr.checkKey em (d + 1) et a
        pure (ForInStep.yield PUnit.unit) : Sem PUnit).run P w = .ok PUnit.unit w
  | 0, n, cs, he, _ => by simp
  | len + 1, n, cs, he, hx => by
      cases cs with
      | nil => simp [eqL, List.replicate] at he
      | cons x cs =>
        simp only [PR] at hx
        obtain ⟨v, r, hv1, hv2, hv3⟩ := hx
        have gx : xs[n]? = some v := by
          have := congrArg (·[0]?) hv1
          simpa [List.getElem?_drop] using this
        have dx : xs.toList.drop (n + 1) = r := by
          rw [← List.drop_drop, hv1]; rfl
        have he' : (eqL (List.replicate len k) cs cs).isSome := by
          simp only [List.replicate, eqL] at he
          cases e1 : eqK k x x with
          | none => simp [e1] at he
          | some c => simpa [e1] using he
        have ih := keyCells d em hs hg hk xs len (n + 1) cs he' (by rw [dx]; exact hv3)
        have hck : (Go.Instr.checkKey em (d + 1) et v).run P w = .ok () w := by
          unfold kindT at hk
          split at hk <;> cases hk <;> rename_i hu <;> simp [Go.Instr.checkKey, Go.run_underlying hu]
        simp only [List.range'_succ, List.forIn_cons, Sem.run_bind, run_sizeOf hs, Result.andThen_ok, Nat.mul_one, run_part_one hg gx, hck, Sem.run_pure, ih]

theorem checkKey_ok {q : Q} {x : V} {v : Value} (he : (eqQ q x x).isSome) (hx : VR ro x h v) {t : TypeId} (hq : qOf P t = some q) (em : Bool) :
    (Go.Instr.checkKey em 10000 t v).run P w = .ok () w := by
  cases q with
  | one k =>
    have k1 := qOf_one hq
    unfold kindT at k1
    rw [show (10000 : Nat) = 9999 + 1 from rfl, Go.Instr.checkKey]
    split at k1 <;> cases k1 <;> rename_i hu <;> simp [Go.run_underlying hu]
  | many ks =>
    cases x with
    | ag ds =>
      simp only [eqQ] at he
      simp only [VR] at hx
      obtain ⟨xs, rfl, lx, ox, px⟩ := hx
      unfold qOf at hq
      split at hq
      · cases hq
      · cases hq
      · cases hq
      · rename_i fs hu
        split at hq
        · cases hq
        · simp only [Option.map_eq_some_iff] at hq
          obtain ⟨l, k1, k2⟩ := hq
          cases k2
          have := keyFields (P := P) (w := w) 9998 em xs fs.toList 0 ks ds k1 he (by simpa using px)
          rw [show (10000 : Nat) = 9999 + 1 from rfl, Go.Instr.checkKey]
          simp only [Sem.run_bind, Go.run_underlying hu, Result.andThen_ok]
          rw [← Array.forIn_toList, this]
          simp
      · rename_i n et hu
        split at hq
        · rename_i hc
          obtain ⟨h1, h2⟩ := hc
          simp only [Option.map_eq_some_iff] at hq
          obtain ⟨k, k1, k2⟩ := hq
          cases k2
          have := keyCells (P := P) (w := w) 9998 em h1 h2 k1 xs n 0 ds he (by simpa using px)
          rw [show (10000 : Nat) = 9999 + 1 from rfl, Go.Instr.checkKey]
          simp only [Sem.run_bind, Go.run_underlying hu, Result.andThen_ok]
          rw [Std.Legacy.Range.forIn_eq_forIn_range']
          rw [show List.range' [:n].start [:n].size [:n].step = List.range' 0 n by simp [Std.Legacy.Range.size]]
          rw [this]
          simp
        · cases hq
      · cases hq
    | _ => cases he

/-- What the machine finds, of what is found. -/
def found (es : List Go.MapEntry) (j : Nat) (r : Option Nat) : Option (Nat × Value) := r.bind fun i => (es[i - j]?).map fun e => (i, e.val)

theorem find_ge {q : Q} {x : V} : ∀ {ks : List V} {j : Nat} {i : Nat}, find q x ks j = some (some i) → j ≤ i ∧ i - j < ks.length
  | [], j, i, h => by cases h
  | k :: ks, j, i, h => by
    simp only [find, Option.bind_eq_some_iff] at h
    obtain ⟨c, h1, h2⟩ := h
    cases c with
    | true => simp at h2; subst h2; simp
    | false =>
      have := find_ge (by simpa using h2)
      simp
      omega

theorem found_cons {e : Go.MapEntry} {es : List Go.MapEntry} {j : Nat} {r : Option Nat} (h : ∀ i, r = some i → j + 1 ≤ i) : found (e :: es) j r = found es (j + 1) r := by
  cases r with
  | none => rfl
  | some i =>
    have := h i rfl
    simp only [found, Option.bind_some]
    rw [show i - j = (i - (j + 1)) + 1 by omega]
    rfl

theorem findAsking_ok {q : Q} {x : V} {v : Value} {t : TypeId} (hx : VR ro x h v) (hq : qOf P t = some q) : ∀ (ks : List V) (es : List Go.MapEntry) (j : Nat) (r : Option Nat), find q x ks j = some r →
    PR ro ks h (es.map (·.key)) → ks.length = es.length → (Go.Instr.findAsking t v es j).run P w = .ok (found es j r) w
  | [], [], j, r, hf, _, _ => by cases hf; simp [Go.Instr.findAsking, found]
  | k :: ks, e :: es, j, r, hf, hp, hl => by
    simp only [List.map_cons, PR] at hp
    obtain ⟨u, s, h1, h2, h3⟩ := hp
    cases h1
    simp only [find, Option.bind_eq_some_iff] at hf
    obtain ⟨c, f1, f2⟩ := hf
    simp only [Go.Instr.findAsking, Sem.run_bind, equal_sound f1 hx h2 hq, Result.andThen_ok]
    cases c with
    | true => simp at f2; subst f2; simp [found]
    | false =>
      have f2' : find q x ks (j + 1) = some r := by simpa using f2
      have := findAsking_ok hx hq ks es (j + 1) r f2' h3 (by simpa using hl)
      simp only [Bool.false_eq_true, if_false, this]
      rw [found_cons (fun i hi => (find_ge (by rw [f2', hi])).1)]
  | [], _ :: _, _, _, _, _, hl => by simp at hl
  | _ :: _, [], _, _, _, _, hl => by simp at hl

theorem sameNow_ok {k : K} {x y : V} {v u : Value} {c : Bool} (he : eqK k x y = some c) (hx : VR ro x h v) (hy : VR ro y h u) {t : TypeId} {d : Go.TypeDesc} (hu : P.underlying t = some d) (hk : kindT P t = some k) :
    Go.Instr.sameNow d v u = some c := by
  unfold kindT at hk
  rw [hu] at hk
  unfold eqK at he
  split at he
  · split at he
    · rename_i e
      subst e
      cases he
      simp only [VR] at hx hy
      subst hx; subst hy
      split at hk <;> cases hk
      rename_i e; cases e
      simp [Go.Instr.sameNow]
    · cases he
  · cases he
    simp only [VR] at hx hy
    subst hx; subst hy
    split at hk <;> cases hk
    rename_i e; cases e
    simp [Go.Instr.sameNow]
  · cases he
    simp only [VR] at hx hy
    subst hx; subst hy
    split at hk <;> cases hk
    rename_i e; cases e
    simp [Go.Instr.sameNow]
  · cases he

theorem findNow_ok {k : K} {x : V} {v : Value} {t : TypeId} {d : Go.TypeDesc} (hu : P.underlying t = some d) (hk : kindT P t = some k) (hx : VR ro x h v) : ∀ (ks : List V) (es : List Go.MapEntry) (j : Nat) (r : Option Nat), find (.one k) x ks j = some r →
    PR ro ks h (es.map (·.key)) → ks.length = es.length → Go.Instr.findNow d v es j = some (found es j r)
  | [], [], j, r, hf, _, _ => by cases hf; simp [Go.Instr.findNow, found]
  | y :: ks, e :: es, j, r, hf, hp, hl => by
    simp only [List.map_cons, PR] at hp
    obtain ⟨u, s, h1, h2, h3⟩ := hp
    cases h1
    simp only [find, Option.bind_eq_some_iff] at hf
    obtain ⟨c, f1, f2⟩ := hf
    have := sameNow_ok f1 hx h2 hu hk
    simp only [Go.Instr.findNow, this]
    cases c with
    | true => simp at f2; subst f2; simp [found]
    | false =>
      have f2' : find (.one k) x ks (j + 1) = some r := by simpa using f2
      have := findNow_ok hu hk hx ks es (j + 1) r f2' h3 (by simpa using hl)
      simp only [this]
      rw [found_cons (fun i hi => (find_ge (by rw [f2', hi])).1)]
  | [], _ :: _, _, _, _, _, hl => by simp at hl
  | _ :: _, [], _, _, _, _, hl => by simp at hl

theorem findKey_ok {q : Q} {x : V} {v : Value} {t : TypeId} (hx : VR ro x h v) (hq : qOf P t = some q) {ks : List V} {es : List Go.MapEntry} {r : Option Nat} (hf : findIn q x ks = some r)
    (hp : PR ro ks h (es.map (·.key))) (hl : ks.length = es.length) : (Go.Instr.findKey t v es).run P w = .ok (found es 0 r) w := by
  unfold findIn at hf
  split at hf
  · rename_i hok
    have hud : ∃ d, P.underlying t = some d := by
      unfold qOf at hq
      cases hu : P.underlying t with
      | none => rw [hu] at hq; cases hq
      | some d => exact ⟨d, rfl⟩
    obtain ⟨d, hu⟩ := hud
    simp only [Go.Instr.findKey, Sem.run_bind, Go.run_underlying hu, Result.andThen_ok]
    cases q with
    | one k =>
      rw [findNow_ok hu (qOf_one hq) hx ks es 0 r hf hp hl]
      simp
    | many kk =>
      cases es with
      | nil =>
        cases ks with
        | nil => cases hf; simp [Go.Instr.findNow, found]
        | cons a b => simp at hl
      | cons e es =>
        have hnone : Go.Instr.findNow d v (e :: es) 0 = none := by
          have hs : Go.Instr.sameNow d v e.key = none := by
            cases x <;> simp [eqQ] at hok
            simp only [VR] at hx
            obtain ⟨arr, rfl, _⟩ := hx
            unfold Go.Instr.sameNow
            split <;> simp_all
          simp [Go.Instr.findNow, hs]
        rw [hnone]
        exact findAsking_ok hx hq ks (e :: es) 0 r hf hp hl
  · cases hf

end
end Pi
