/- All operations together. -/
import Derived.Test.YtglibfclhecbkaaYPiB
set_option linter.unusedSimpArgs false
namespace Pi
open Go (IntKind TypeId FuncId Fn BinOp UnOp LoopState Value Addr World Program undef Operand Sem Result)

section
variable {P : Program} {g : G} {m : Sto} {w : World} {slot : Nat}

theorem opdO_none {o : Option Operand} (h : opdO o = some none) : o = none := by
  cases o with
  | none => rfl
  | some x => simp [opdO] at h

theorem opD_call (hw : WR P g m w) (hm : g.rho slot = none) {e : Env} {tm : Array Value} (he : ER g e tm) {c : Go.Call} {po : POp} (hc : compCall P c = some po) {v : V} {ws : Ws} (h : opD po e m slot = some (v, ws)) (ty : TypeId) :
    Good P g m w slot v ws ((do let d ← Go.resolve (evT tm) c ty; Go.invoke d.target d.args : Sem Go.Next).run P w) := by
  obtain ⟨callee, args, argTypes⟩ := c
  have hargs : args.map (evT tm) = (args.toList.map (evT tm)).toArray := by apply Array.ext'; simp
  cases callee with
  | value f =>
    simp only [compCall, Option.bind_eq_some_iff, Option.map_eq_some_iff] at hc
    obtain ⟨_, _, _, _, rfl⟩ := hc
    cases h
  | invoke r n => cases hc
  | builtin b =>
    have hrun : ∀ {s : Sem Value}, (Go.builtin b argTypes ty (args.map fun | .const _ => true | _ => false) (args.toList.map (evT tm)).toArray = (do pure (.value (← s)))) → GoodV P g m w slot v ws (s.run P w) →
        Good P g m w slot v ws ((do let d ← Go.resolve (evT tm) ⟨.builtin b, args, argTypes⟩ ty; Go.invoke d.target d.args : Sem Go.Next).run P w) := by
      intro s h1 h2
      have := h2.good
      rw [← h1, ← hargs] at this
      simp only [Go.resolve, Go.invoke, Sem.run_bind, Sem.run_pure, Result.andThen_ok]
      exact this
    cases b <;> simp only [compCall] at hc
    case len =>
      split at hc
      · rename_i x t ha ht
        split at hc
        · rename_i n et hu
          cases hc
          simp only [opD, Opd.ev, Option.some.injEq, Prod.mk.injEq] at h
          obtain ⟨rfl, rfl⟩ := h
          refine hrun rfl (GoodV.pure hw (v' := .int .i64 n) (by simp [VR]) ?_)
          have hat : argTypes = #[t] := by apply Array.ext'; simpa using ht
          rw [ha, hat]
          simp [Go.Builtin.len_, Go.run_underlying hu, Go.goInt]
        · rename_i hu
          simp only [Option.map_eq_some_iff] at hc
          obtain ⟨y, h1, rfl⟩ := hc
          simp only [opD, Option.map_eq_some_iff, Prod.mk.injEq] at h
          obtain ⟨n, h2, rfl, rfl⟩ := h
          refine hrun rfl ?_
          have hat : argTypes = [t].toArray := by apply Array.ext'; simpa using ht
          rw [ha, hat]
          exact good_len hw (.inl ⟨rfl, hu⟩) (opd_ok he h1) ty h2
        · rename_i et hu
          simp only [Option.map_eq_some_iff] at hc
          obtain ⟨y, h1, rfl⟩ := hc
          simp only [opD, Option.map_eq_some_iff, Prod.mk.injEq] at h
          obtain ⟨n, h2, rfl, rfl⟩ := h
          refine hrun rfl ?_
          have hat : argTypes = [t].toArray := by apply Array.ext'; simpa using ht
          rw [ha, hat]
          exact good_len hw (.inr (.inl ⟨rfl, _, hu⟩)) (opd_ok he h1) ty h2
        · rename_i kt et hu
          simp only [Option.map_eq_some_iff] at hc
          obtain ⟨y, h1, rfl⟩ := hc
          simp only [opD, Option.map_eq_some_iff, Prod.mk.injEq] at h
          obtain ⟨n, h2, rfl, rfl⟩ := h
          refine hrun rfl ?_
          have hat : argTypes = [t].toArray := by apply Array.ext'; simpa using ht
          rw [ha, hat]
          exact good_len hw (.inr (.inr ⟨rfl, _, _, hu⟩)) (opd_ok he h1) ty h2
        · cases hc
      · cases hc
    case append =>
      split at hc
      · rename_i s x t u ha ht
        have hat : argTypes = #[t, u] := by apply Array.ext'; simpa using ht
        split at hc
        · rename_i et e2 hu hu2
          simp only [Option.bind_eq_some_iff] at hc
          obtain ⟨inf, h1, z, h2, h3⟩ := hc
          split at h3
          · rename_i hcc
            simp only [Option.bind_eq_some_iff, Option.map_eq_some_iff] at h3
            obtain ⟨s', h4, x', h5, rfl⟩ := h3
            refine hrun rfl ?_
            rw [ha, hat]
            exact good_append hw hm hu (.inr ⟨_, hu2⟩) h1 hcc.2.1 h2 hcc.2.2 (opd_ok he h4) (opd_ok he h5) ty h
          · cases h3
        · rename_i et hu hu2
          simp only [Option.bind_eq_some_iff] at hc
          obtain ⟨inf, h1, z, h2, h3⟩ := hc
          split at h3
          · rename_i hcc
            simp only [Option.bind_eq_some_iff, Option.map_eq_some_iff] at h3
            obtain ⟨s', h4, x', h5, rfl⟩ := h3
            refine hrun rfl ?_
            rw [ha, hat]
            exact good_append hw hm hu (.inl hu2) h1 hcc.2.1 h2 hcc.2.2 (opd_ok he h4) (opd_ok he h5) ty h
          · cases h3
        · cases hc
      · cases hc
    case copy =>
      split at hc
      · rename_i s x t us ha ht
        have hat : argTypes = (t :: us).toArray := by apply Array.ext'; simpa using ht
        split at hc
        · rename_i et hu
          simp only [Option.bind_eq_some_iff] at hc
          obtain ⟨n, h1, h2⟩ := hc
          split at h2
          · simp only [Option.bind_eq_some_iff, Option.map_eq_some_iff] at h2
            obtain ⟨s', h4, x', h5, rfl⟩ := h2
            refine hrun rfl ?_
            rw [ha, hat]
            exact good_copy hw hu h1 (opd_ok he h4) (opd_ok he h5) ty h
          · cases h2
        · cases hc
      · cases hc
    case max =>
      simp only [Option.map_eq_some_iff] at hc
      obtain ⟨l, h1, rfl⟩ := hc
      obtain ⟨h2, h3⟩ := opds_ok he h1
      simp only [opD] at h
      cases l with
      | nil => cases h
      | cons x xs =>
        simp only [Option.map_eq_some_iff, Prod.mk.injEq] at h
        obtain ⟨y, h4, rfl, rfl⟩ := h
        refine hrun rfl ?_
        cases ha : args.toList with
        | nil => rw [ha] at h3; simp at h3
        | cons a as =>
          rw [ha] at h2 h3
          simp only [List.map_cons, PR] at h2
          obtain ⟨_, _, e1, h5, h6⟩ := h2
          cases e1
          obtain ⟨v', h7, h8⟩ := fold_max (P := P) (w := w) _ _ _ _ _ h5 h6 (by simp at h3 ⊢; omega) h4
          exact GoodV.pure hw h8 (by simpa [Go.Builtin.max_] using h7)
    case min =>
      simp only [Option.map_eq_some_iff] at hc
      obtain ⟨l, h1, rfl⟩ := hc
      obtain ⟨h2, h3⟩ := opds_ok he h1
      simp only [opD] at h
      cases l with
      | nil => cases h
      | cons x xs =>
        simp only [Option.map_eq_some_iff, Prod.mk.injEq] at h
        obtain ⟨y, h4, rfl, rfl⟩ := h
        refine hrun rfl ?_
        cases ha : args.toList with
        | nil => rw [ha] at h3; simp at h3
        | cons a as =>
          rw [ha] at h2 h3
          simp only [List.map_cons, PR] at h2
          obtain ⟨_, _, e1, h5, h6⟩ := h2
          cases e1
          obtain ⟨v', h7, h8⟩ := fold_min (P := P) (w := w) _ _ _ _ _ h5 h6 (by simp at h3 ⊢; omega) h4
          exact GoodV.pure hw h8 (by simpa [Go.Builtin.min_] using h7)
    case recover => cases hc; cases h
    all_goals cases hc

theorem qOf_int {t : TypeId} {k : IntKind} {q : Q} (hq : qOf P t = some q) (h : P.underlying t = some (.int k)) : q = .one .i := by
  unfold qOf at hq
  rw [h] at hq
  cases hq
  rfl

theorem opD_sound (hw : WR P g m w) (hm : g.rho slot = none) {e : Env} {tm : Array Value} (he : ER g e tm) {o : Go.Op} {po : POp} (hc : compOp P o = some po) {v : V} {ws : Ws} (h : opD po e m slot = some (v, ws))
    {oper : Go.Oper} (ho : oper.op = o) : Good P g m w slot v ws ((Go.execOp (evT tm) oper).run P w) := by
  subst ho
  unfold Go.execOp
  cases hop : oper.op <;> rw [hop] at hc <;> simp only [compOp] at hc
  case move x =>
    simp only [Option.map_eq_some_iff] at hc
    obtain ⟨y, h1, rfl⟩ := hc
    simp only [opD, Option.some.injEq, Prod.mk.injEq] at h
    obtain ⟨rfl, rfl⟩ := h
    exact ⟨_, w, g.rho, .inl rfl, RhoE.refl _, fun _ _ => rfl, opd_ok he h1, hw, WB.refl w⟩
  case assign x =>
    simp only [Option.map_eq_some_iff] at hc
    obtain ⟨y, h1, rfl⟩ := hc
    simp only [opD, Option.some.injEq, Prod.mk.injEq] at h
    obtain ⟨rfl, rfl⟩ := h
    exact ⟨_, w, g.rho, .inl rfl, RhoE.refl _, fun _ _ => rfl, opd_ok he h1, hw, WB.refl w⟩
  case pick c a b =>
    simp only [Option.bind_eq_some_iff, Option.map_eq_some_iff] at hc
    obtain ⟨c', h1, a', h2, b', h3, rfl⟩ := hc
    have k1 := opd_ok he h1
    have k2 := opd_ok he h2
    have k3 := opd_ok he h3
    simp only [opD] at h
    split at h
    · rename_i t ht
      simp only [Option.some.injEq, Prod.mk.injEq] at h
      obtain ⟨rfl, rfl⟩ := h
      rw [ht] at k1
      simp only [VR] at k1
      refine ⟨if t then evT tm a else evT tm b, w, g.rho, .inl ?_, RhoE.refl _, fun _ _ => rfl, ?_, hw, WB.refl w⟩
      · simp [Go.asBool, k1]
      · cases t
        · exact k3
        · exact k2
    · cases h
  case alloc t =>
    simp only [Option.map_eq_some_iff] at hc
    obtain ⟨z, h1, rfl⟩ := hc
    simp only [opD, Option.some.injEq, Prod.mk.injEq] at h
    obtain ⟨rfl, rfl⟩ := h
    exact (good_alloc hw hm h1).good
  case box t x =>
    simp only [Option.map_eq_some_iff] at hc
    obtain ⟨y, h1, rfl⟩ := hc
    simp only [opD] at h
    split at h
    · rename_i hs
      simp only [Option.some.injEq, Prod.mk.injEq] at h
      obtain ⟨rfl, rfl⟩ := h
      exact (good_box hw hm (opd_ok he h1) hs).good
    · cases h
  case build t ps =>
    simp only [Option.bind_eq_some_iff] at hc
    obtain ⟨z, h1, h2⟩ := hc
    obtain ⟨l, hl, rfl⟩ : ∃ l, (match P.underlying t with
      | some (.struct fs) => if fs.toList.all (fun f => (sizeIn P f.type).isSome) then parts P fs ps.toList else none
      | some (.array _ e) => (sizeIn P e).bind fun n => partsA n ps.toList
      | _ => none) = some l ∧ po = .bd z l := by
      generalize P.underlying t = d at h2 ⊢
      split at h2
      · split at h2
        · rename_i hall
          simp only [Option.map_eq_some_iff] at h2
          obtain ⟨l, h3, rfl⟩ := h2
          exact ⟨l, by simp only [hall, if_true, h3], rfl⟩
        · cases h2
      · simp only [Option.bind_eq_some_iff, Option.map_eq_some_iff] at h2
        obtain ⟨n, h3, l, h4, rfl⟩ := h2
        exact ⟨l, by simp only [h3, Option.bind_some, h4], rfl⟩
      · cases h2
    simp only [opD, Option.map_eq_some_iff, Prod.mk.injEq] at h
    obtain ⟨cs, h5, rfl, rfl⟩ := h
    exact (good_build hw he h1 hl h5).good
  case buildSlice t len ps =>
    split at hc
    · rename_i et hu
      simp only [Option.bind_eq_some_iff] at hc
      obtain ⟨n, h1, z, h2, h3⟩ := hc
      split at h3
      · rename_i hcc
        simp only [Option.map_eq_some_iff] at h3
        obtain ⟨l, h4, rfl⟩ := h3
        exact (good_buildSlice hw hm he hu h1 h2 hcc.1 hcc.2.1 hcc.2.2 h4 h).good
      · cases h3
    · cases hc
  case load t a =>
    simp only [Option.bind_eq_some_iff, Option.map_eq_some_iff] at hc
    obtain ⟨ag, h1, n, h2, a', h3, rfl⟩ := hc
    exact (good_load hw h1 h2 (opd_ok he h3) h).good
  case store t a x =>
    simp only [Option.bind_eq_some_iff, Option.map_eq_some_iff] at hc
    obtain ⟨n, h1, a', h2, x', h3, rfl⟩ := hc
    obtain ⟨k1, k2⟩ := good_store hw h1 (opd_ok he h2) (opd_ok he h3) h
    exact k2.good k1
  case nilCheck x =>
    simp only [Option.map_eq_some_iff] at hc
    obtain ⟨y, h1, rfl⟩ := hc
    have k := opd_ok he h1
    simp only [opD] at h
    split at h
    · rename_i l off hy
      simp only [Option.some.injEq, Prod.mk.injEq] at h
      obtain ⟨rfl, rfl⟩ := h
      rw [hy] at k
      have k' := k
      simp only [VR] at k
      obtain ⟨b, n, k1, k2⟩ := k
      refine ⟨_, w, g.rho, .inl ?_, RhoE.refl _, fun _ _ => rfl, k', hw, WB.refl w⟩
      simp [k2]
    · rename_i cs hy
      simp only [Option.some.injEq, Prod.mk.injEq] at h
      obtain ⟨rfl, rfl⟩ := h
      rw [hy] at k
      have k' := k
      simp only [VR] at k
      obtain ⟨_, _, _, _, _, k2, _⟩ := k
      refine ⟨_, w, g.rho, .inl ?_, RhoE.refl _, fun _ _ => rfl, k', hw, WB.refl w⟩
      simp [k2]
    · rename_i f a c hy
      simp only [Option.some.injEq, Prod.mk.injEq] at h
      obtain ⟨rfl, rfl⟩ := h
      rw [hy] at k
      have k' := k
      simp only [VR] at k
      obtain ⟨f', a', c', k2, k3, _⟩ := k
      simp only [FR] at k3
      subst k3
      refine ⟨_, w, g.rho, .inl ?_, RhoE.refl _, fun _ _ => rfl, k', hw, WB.refl w⟩
      simp [k2]
    · rename_i f a c hy
      simp only [Option.some.injEq, Prod.mk.injEq] at h
      obtain ⟨rfl, rfl⟩ := h
      rw [hy] at k
      have k' := k
      simp only [VR] at k
      obtain ⟨f', a', c', k2, k3, _⟩ := k
      simp only [FR] at k3
      obtain ⟨b, n, _, k3⟩ := k3
      subst k3
      refine ⟨_, w, g.rho, .inl ?_, RhoE.refl _, fun _ _ => rfl, k', hw, WB.refl w⟩
      simp [k2]
    · cases h
  case binOp op t x y yt =>
    simp only [Option.bind_eq_some_iff] at hc
    obtain ⟨x', h1, y', h2, h3⟩ := hc
    split at h3
    · cases h3
      simp only [opD, Option.map_eq_some_iff, Prod.mk.injEq] at h
      obtain ⟨u, h4, rfl, rfl⟩ := h
      exact (good_bin hw (opd_ok he h1) (opd_ok he h2) x y h4).good
    · cases h3
      simp only [opD, Option.map_eq_some_iff, Prod.mk.injEq] at h
      obtain ⟨u, h4, rfl, rfl⟩ := h
      exact (good_bin hw (opd_ok he h1) (opd_ok he h2) x y h4).good
    · rename_i od d hni hns hu
      simp only [Option.bind_eq_some_iff] at h3
      obtain ⟨q, h4, h5⟩ := h3
      split at h5
      · cases h5
      · rename_i hgt
        have hgt' : P.eqGuardType P.depth t = false := by simpa using hgt
        have n1 : ∀ k, P.underlying t ≠ some (.int k) := by
          intro k e
          rw [hu] at e
          cases e
          exact hni k rfl
        have n2 : P.underlying t ≠ some .string := by
          intro e
          rw [hu] at e
          cases e
          exact hns rfl
        split at h5
        · cases h5
          exact (good_eq hw (neg := false) rfl h4 hgt' n1 n2 (opd_ok he h1) (opd_ok he h2) x y h).good
        · cases h5
          exact (good_eq hw (neg := true) rfl h4 hgt' n1 n2 (opd_ok he h1) (opd_ok he h2) x y h).good
        · cases h5
    · cases h3
  case unOp op t x =>
    simp only [Option.map_eq_some_iff] at hc
    obtain ⟨y, h1, rfl⟩ := hc
    simp only [opD, Option.map_eq_some_iff, Prod.mk.injEq] at h
    obtain ⟨u, h4, rfl, rfl⟩ := h
    exact (good_un hw (opd_ok he h1) h4).good
  case convert s d x =>
    simp only [Option.bind_eq_some_iff] at hc
    obtain ⟨x', h1, h2⟩ := hc
    have k := opd_ok he h1
    split at h2
    · rename_i ks kd hus hud
      cases h2
      simp only [opD] at h
      split at h
      · rename_i k' n hx
        simp only [Option.some.injEq, Prod.mk.injEq] at h
        obtain ⟨rfl, rfl⟩ := h
        rw [hx] at k
        simp only [VR] at k
        refine (GoodV.pure (v' := .int kd (kd.wrap n)) hw (by simp [VR]) ?_).good
        rw [k]
        simp [Go.convert, Go.run_underlying hus, Go.run_underlying hud, Go.Conv.intToInt]
      · cases h
    · rename_i et hus hud
      split at h2
      · rename_i hue
        cases h2
        exact (good_cbs hw hus hud hue k h).good
      · cases h2
    · rename_i et hus hud
      split at h2
      · rename_i hue
        cases h2
        exact (good_csb hw hm hus hud hue k h).good
      · cases h2
    · cases h2
  case makeInterface t x =>
    split at hc
    · cases hc
    · rename_i od d hni hu
      simp only [Option.map_eq_some_iff] at hc
      obtain ⟨y, h1, rfl⟩ := hc
      simp only [opD, Option.some.injEq, Prod.mk.injEq] at h
      obtain ⟨rfl, rfl⟩ := h
      refine (GoodV.pure (v' := .iface t (evT tm x)) hw (by simp only [VR]; exact ⟨_, rfl, opd_ok he h1⟩) ?_).good
      cases d <;> first | exact absurd rfl (hni _) | simp [Go.Instr.makeInterface, Go.run_underlying hu]
    · cases hc
  case makeFunc f a c =>
    split at hc
    · rename_i gg
      simp only [Option.bind_eq_some_iff, Option.map_eq_some_iff] at hc
      obtain ⟨a', h1, c', h2, rfl⟩ := hc
      simp only [opD, Option.some.injEq, Prod.mk.injEq] at h
      obtain ⟨rfl, rfl⟩ := h
      obtain ⟨k1, k2⟩ := opds_ok he h1
      obtain ⟨k3, k4⟩ := opds_ok he h2
      refine (GoodV.pure (v' := .func (.func gg) (a.map (evT tm)) (c.map (evT tm))) hw ?_ ?_).good
      · simp only [VR]
        exact ⟨_, _, _, rfl, rfl, by simp [k2], by simp [k4], by simpa using k1, by simpa using k3⟩
      · simp [Go.Instr.makeFunc]
    · cases hc
  case makeMap t r =>
    cases r with
    | some x => cases hc
    | none =>
      cases hc
      simp only [opD, Option.some.injEq, Prod.mk.injEq] at h
      obtain ⟨rfl, rfl⟩ := h
      exact (good_makeMap hw hm t).good
  case makeSlice t l c =>
    split at hc
    · rename_i et hu
      simp only [Option.bind_eq_some_iff] at hc
      obtain ⟨inf, h1, z, h2, h3⟩ := hc
      split at h3
      · rename_i hcc
        simp only [Option.bind_eq_some_iff, Option.map_eq_some_iff] at h3
        obtain ⟨l', h4, c', h5, rfl⟩ := h3
        exact (good_makeSlice hw hm hu h1 hcc.1 hcc.2.1 h2 hcc.2.2 (opd_ok he h4) (opd_ok he h5) h).good
      · cases h3
    · cases hc
  case slice t x lo hi mx =>
    simp only [Option.bind_eq_some_iff] at hc
    obtain ⟨x', h1, lo', h2, hi', h3, mx', h4, h5⟩ := hc
    split at h5
    · rename_i hu
      cases mx' with
      | some _ => cases h5
      | none =>
        cases h5
        rw [opdO_none h4]
        exact (good_ss hw he hu (opd_ok he h1) h2 h3 h).good
    · rename_i et hu
      simp only [Option.bind_eq_some_iff] at h5
      obtain ⟨n, h6, h7⟩ := h5
      split at h7
      · cases h7
        cases mx' with
        | none =>
          rw [opdO_none h4]
          exact (good_sv hw he hu h6 (opd_ok he h1) h2 h3 h).good
        | some q => exact (good_sv3 hw he hu h6 (opd_ok he h1) h2 h3 h4 h).good
      · cases h7
    · rename_i len et hu
      simp only [Option.bind_eq_some_iff] at h5
      obtain ⟨n, h6, h7⟩ := h5
      split at h7
      · rename_i hcc
        cases h7
        cases mx' with
        | some _ => simp at hcc
        | none =>
          rw [opdO_none h4]
          exact (good_sa hw he hu h6 (opd_ok he h1) h2 h3 h).good
      · cases h7
    · cases h5
  case fieldAddr t x f =>
    split at hc
    · rename_i fs hu
      simp only [Option.bind_eq_some_iff] at hc
      obtain ⟨fl, h1, n, h2, h3⟩ := hc
      split at h3
      · rename_i hcc
        simp only [Option.map_eq_some_iff] at h3
        obtain ⟨x', h4, rfl⟩ := h3
        exact (good_fieldAddr hw hu h1 h2 hcc (opd_ok he h4) h).good
      · cases h3
    · cases hc
  case field t x f =>
    split at hc
    · rename_i fs hu
      simp only [Option.bind_eq_some_iff, Option.map_eq_some_iff] at hc
      obtain ⟨fl, h1, ag, h2, n, h3, x', h4, rfl⟩ := hc
      exact (good_field hw hu h1 h2 h3 (opd_ok he h4) h).good
    · cases hc
  case indexAddr t x i =>
    simp only [Option.bind_eq_some_iff] at hc
    obtain ⟨x', h1, i', h2, h3⟩ := hc
    split at h3
    · rename_i et hu
      simp only [Option.bind_eq_some_iff] at h3
      obtain ⟨n, h4, h5⟩ := h3
      cases h5
      exact (good_ia hw hu h4 (opd_ok he h1) (opd_ok he h2) h).good
    · rename_i len et hu
      simp only [Option.bind_eq_some_iff] at h3
      obtain ⟨n, h4, h5⟩ := h3
      cases h5
      exact (good_iz hw hu h4 (opd_ok he h1) (opd_ok he h2) h).good
    · cases h3
  case index t x i =>
    simp only [Option.bind_eq_some_iff] at hc
    obtain ⟨x', h1, i', h2, h3⟩ := hc
    split at h3
    · rename_i len et hu
      simp only [Option.bind_eq_some_iff] at h3
      obtain ⟨ag, h4, n, h5, h6⟩ := h3
      cases h6
      exact (good_xa hw hu h4 h5 (opd_ok he h1) (opd_ok he h2) h).good
    · rename_i hu
      cases h3
      exact (good_xs hw hu (opd_ok he h1) (opd_ok he h2) h).good
    · cases h3
  case lookup t mm k ok =>
    simp only [Option.bind_eq_some_iff] at hc
    obtain ⟨m', h1, k', h2, h3⟩ := hc
    split at h3
    · rename_i kt et hu
      simp only [Option.bind_eq_some_iff, Option.map_eq_some_iff] at h3
      obtain ⟨q, h4, z, h5, rfl⟩ := h3
      exact (good_lookup hw hu h4 h5 (opd_ok he h1) (opd_ok he h2) h).good
    · cases h3
  case mapUpdate t mm k x =>
    simp only [Option.bind_eq_some_iff] at hc
    obtain ⟨m', h1, k', h2, x', h3, h4⟩ := hc
    split at h4
    · rename_i kt et hu
      simp only [Option.map_eq_some_iff] at h4
      obtain ⟨q, h5, rfl⟩ := h4
      obtain ⟨k1, k2⟩ := good_mapUpdate hw hu h5 (opd_ok he h1) (opd_ok he h2) (opd_ok he h3) h
      exact k2.good k1
    · cases h4
  case insert t mm k x =>
    simp only [Option.bind_eq_some_iff] at hc
    obtain ⟨m', h1, k', h2, x', h3, h4⟩ := hc
    split at h4
    · rename_i kt et hu
      simp only [Option.map_eq_some_iff] at h4
      obtain ⟨q, h5, rfl⟩ := h4
      obtain ⟨k1, k2⟩ := good_mapUpdate hw hu h5 (opd_ok he h1) (opd_ok he h2) (opd_ok he h3) h
      exact k2.good k1
    · cases h4
  case typeAssert x xt t ok =>
    split at hc
    · cases hc
    · rename_i od d hni hu
      simp only [Option.bind_eq_some_iff, Option.map_eq_some_iff] at hc
      obtain ⟨x', h1, z, h2, rfl⟩ := hc
      exact (good_ta hw ⟨d, hu, fun ms e => hni ms e⟩ h2 (opd_ok he h1) h).good
    · cases hc
  case extract x i =>
    simp only [Option.map_eq_some_iff] at hc
    obtain ⟨y, h1, rfl⟩ := hc
    exact (good_ex hw (opd_ok he h1) h).good
  case call c => exact opD_call hw hm he hc h _
  case panic x =>
    simp only [Option.map_eq_some_iff] at hc
    obtain ⟨y, h1, rfl⟩ := hc
    cases h
  case defer c =>
    split at hc
    · simp only [Option.bind_eq_some_iff, Option.map_eq_some_iff] at hc
      obtain ⟨_, _, _, _, rfl⟩ := hc
      cases h
    · cases hc
  all_goals cases hc

end
end Pi
