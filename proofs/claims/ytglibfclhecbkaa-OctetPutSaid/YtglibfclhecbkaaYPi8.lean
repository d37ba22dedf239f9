/- The machine's operations against the pure ones: maps, slices that grow. -/
import Derived.Test.YtglibfclhecbkaaYPi7
namespace Pi
open Go (IntKind TypeId FuncId Fn BinOp UnOp LoopState Value Addr World Program undef Operand Sem Result)

theorem eqK_true {k : K} {x y : V} (h : eqK k x y = some true) : x = y := by
  unfold eqK at h
  split at h
  · split at h
    · rename_i e; subst e; simp at h; subst h; rfl
    · cases h
  · simp at h; subst h; rfl
  · rename_i a b
    simp only [Option.some.injEq] at h
    have h1 : a.beq b = true := h
    have h2 : a.data = b.data := by simpa [ByteArray.beq] using h1
    rw [show a = b from by cases a; cases b; exact congrArg ByteArray.mk h2]
  · cases h

theorem eqL_true : ∀ {ks : List K} {x y : List V}, eqL ks x y = some true → x = y
  | [], [], [], _ => rfl
  | k :: ks, x :: xs, y :: ys, h => by
    simp only [eqL, Option.bind_eq_some_iff, Option.map_eq_some_iff] at h
    obtain ⟨c, h1, d, h2, h3⟩ := h
    simp at h3
    obtain ⟨rfl, rfl⟩ := h3
    rw [eqK_true h1, eqL_true h2]
  | [], [], _ :: _, h => by simp [eqL] at h
  | [], _ :: _, _, h => by simp [eqL] at h
  | _ :: _, [], _, h => by simp [eqL] at h
  | _ :: _, _ :: _, [], h => by simp [eqL] at h

theorem eqQ_true {q : Q} {x y : V} (h : eqQ q x y = some true) : x = y := by
  unfold eqQ at h
  split at h
  · exact eqK_true h
  · rw [eqL_true h]
  · cases h

theorem find_eq {q : Q} {x : V} : ∀ {ks : List V} {j i : Nat}, find q x ks j = some (some i) → ks[i - j]? = some x
  | [], j, i, h => by cases h
  | k :: ks, j, i, h => by
    simp only [find, Option.bind_eq_some_iff] at h
    obtain ⟨c, h1, h2⟩ := h
    cases c with
    | true => simp at h2; subst h2; simp [eqQ_true h1]
    | false =>
      have h3 : find q x ks (j + 1) = some (some i) := by simpa using h2
      have := find_eq h3
      have hg := (find_ge h3).1
      rw [show i - j = (i - (j + 1)) + 1 by omega]
      simpa using this

section
variable {P : Program} {g : G} {m : Sto} {w : World} {slot : Nat}

theorem zeroV_ok {t : TypeId} {z : V} (h : zeroV P t = some z) (ro : Ro) (r : Rho) : ∃ v, zeroIn P t = some v ∧ VR ro z r v := by
  simp only [zeroV, Option.bind_eq_some_iff] at h
  obtain ⟨v, h1, h2⟩ := h
  exact ⟨v, h1, cv_ok h2 ro r⟩

theorem look_ok {q : Q} {z x v : V} {ok : Bool} {ks vs : List V} {ws : Ws} {ro : Ro} {h : Rho} {u : Value} {kt e : TypeId} (hl : look q z x ok ks vs = some (v, ws)) (hx : VR ro x h u)
    (hq : qOf P kt = some q) (hz : zeroV P e = some z) {es : List Go.MapEntry} (hk : PR ro ks h (es.map (·.key))) (lk : ks.length = es.length) (hv : PR ro vs h (es.map (·.val))) :
    ws = [] ∧ ∃ v', VR ro v h v' ∧ ((do
        let (v, ok') ← match ← Go.Instr.findKey kt u es with
          | some (_, v) => pure (v, true)
          | none => pure (← Go.zeroValue e, false)
        pure (if ok then .tuple #[v, .bool ok'] else v)) : Sem Value).run P w = .ok v' w := by
  simp only [look, Option.bind_eq_some_iff] at hl
  obtain ⟨r, h1, h2⟩ := hl
  have hf := findKey_ok (P := P) (w := w) hx hq h1 hk lk
  obtain ⟨zv, z1, z2⟩ := zeroV_ok hz ro h
  cases r with
  | none =>
    simp only [Option.some.injEq, Prod.mk.injEq] at h2
    obtain ⟨rfl, rfl⟩ := h2
    refine ⟨rfl, if ok then .tuple #[zv, .bool false] else zv, ?_, ?_⟩
    · cases ok with
      | true => simp only [if_true, VR]; exact ⟨_, rfl, rfl, ⟨_, _, rfl, z2, ⟨_, _, rfl, rfl, trivial⟩⟩⟩
      | false => exact z2
    · simp [hf, found, run_zero z1]
  | some i =>
    simp only [Option.map_eq_some_iff, Prod.mk.injEq] at h2
    obtain ⟨y, h3, rfl, rfl⟩ := h2
    obtain ⟨uv, k1, k2⟩ := hv.get h3
    rw [List.getElem?_map, Option.map_eq_some_iff] at k1
    obtain ⟨en, k3, rfl⟩ := k1
    refine ⟨rfl, if ok then .tuple #[en.val, .bool true] else en.val, ?_, ?_⟩
    · cases ok with
      | true => simp only [if_true, VR]; exact ⟨_, rfl, rfl, ⟨_, _, rfl, k2, ⟨_, _, rfl, rfl, trivial⟩⟩⟩
      | false => exact k2
    · simp [hf, found, k3]

/-- What a lookup does behind its map's entries. -/
def lookTail (kt e : TypeId) (u : Value) (ok : Bool) (es : Array Go.MapEntry) : Sem Value := do
  Go.Instr.checkKey es.isEmpty 10000 kt u
  let (v, ok') ← match ← Go.Instr.findKey kt u es.toList with
    | some (_, v) => pure (v, true)
    | none => pure (← Go.zeroValue e, false)
  pure (if ok then .tuple #[v, .bool ok'] else v)

theorem lookup_none {t kt e : TypeId} (ht : P.underlying t = some (.map kt e)) (u : Value) (ok : Bool) : (Go.Instr.lookup t (.map none) u ok).run P w = (lookTail kt e u ok #[]).run P w := by
  simp only [Go.Instr.lookup, Sem.run_bind, Go.run_underlying ht, Result.andThen_ok, Sem.run_pure, lookTail]
  rfl

theorem lookup_some {t kt e : TypeId} (ht : P.underlying t = some (.map kt e)) (u : Value) (ok : Bool) {b ck : Nat} {es : Array Go.MapEntry} (hb : w.heap[b]? = some (.map es ck)) :
    (Go.Instr.lookup t (.map (some b)) u ok).run P w = (lookTail kt e u ok es).run P w := by
  have hg : (Go.getObj b).run P w = .ok (.map es ck) w := by simp [Go.getObj, Sem.run, hb]
  simp only [Go.Instr.lookup, Sem.run_bind, Go.run_underlying ht, Result.andThen_ok, Sem.run_pure, lookTail, hg]
  rfl

theorem good_lookup (hw : WR P g m w) {t kt e : TypeId} {q : Q} {z x y v : V} {ok : Bool} {ws : Ws} {a u : Value} (ht : P.underlying t = some (.map kt e)) (hq : qOf P kt = some q) (hz : zeroV P e = some z)
    (hx : VR g.ro x g.rho a) (hy : VR g.ro y g.rho u)
    (h : (match (generalizing := false) x with
      | .nm => look q z y ok [] []
      | .rm ks vs => look q z y ok ks vs
      | .mp l => match m l with
        | some (.map ks vs _) => look q z y ok ks vs
        | _ => none
      | _ => none) = some (v, ws)) : GoodV P g m w slot v ws ((Go.Instr.lookup t a u ok).run P w) := by
  have hkey : ∀ {ks vs}, look q z y ok ks vs = some (v, ws) → (eqQ q y y).isSome := by
    intro ks vs hl
    simp only [look, findIn, Option.bind_eq_some_iff] at hl
    obtain ⟨r, h1, _⟩ := hl
    split at h1
    · assumption
    · cases h1
  have fin : ∀ {es : Array Go.MapEntry} {ks vs} {h' : Rho}, look q z y ok ks vs = some (v, ws) → PR g.ro ks h' (es.toList.map (·.key)) → ks.length = es.size → PR g.ro vs h' (es.toList.map (·.val)) → vs.length = es.size →
      RhoE h' g.rho → (Go.Instr.lookup t a u ok).run P w = (lookTail kt e u ok es).run P w → GoodV P g m w slot v ws ((Go.Instr.lookup t a u ok).run P w) := by
    intro es ks vs h' hl hk lk hv lv hm hes
    obtain ⟨e1, v', k1, k2⟩ := look_ok (P := P) (w := w) hl hy hq hz (PR.mono (RoE.refl _) ks hm hk) (by simpa using lk) (PR.mono (RoE.refl _) vs hm hv)
    subst e1
    refine GoodV.pure hw k1 ?_
    rw [hes]
    unfold lookTail
    rw [Sem.run_bind, checkKey_ok (P := P) (w := w) (hkey hl) hy hq es.isEmpty, Result.andThen_ok]
    exact k2
  cases x with
  | nm =>
    simp only [VR] at hx
    subst hx
    exact fin (es := #[]) (h' := g.rho) h (by simp [PR]) rfl (by simp [PR]) rfl (RhoE.refl _) (lookup_none ht u ok)
  | rm ks vs =>
    simp only [VR] at hx
    rcases hx with ⟨rfl, rfl, rfl⟩ | ⟨b, es, ck, rfl, h2, h3, h4, h5, h6⟩
    · exact fin (es := #[]) (h' := g.rho) h (by simp [PR]) rfl (by simp [PR]) rfl (RhoE.refl _) (lookup_none ht u ok)
    · have hb := hw.keep _ _ (hw.ro _ _ h2)
      exact fin h h5 h3 h6 h4 (fun _ _ e => by cases e) (lookup_some ht u ok hb)
  | mp l =>
    dsimp only at h
    split at h
    · rename_i ks vs r hm
      simp only [VR] at hx
      obtain ⟨b, n, h1, rfl⟩ := hx
      obtain ⟨b', n', h2, es, ck, h3, h4, h5, h6, h7, h8⟩ := hw.obj l _ hm
      rw [h1] at h2
      cases h2
      exact fin h h6 h4 h7 h5 (RhoE.refl _) (lookup_some ht u ok h3)
    · cases h
  | _ => cases h

end
end Pi
