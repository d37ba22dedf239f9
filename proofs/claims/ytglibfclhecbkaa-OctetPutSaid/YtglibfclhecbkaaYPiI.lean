/- The run of code: functions entered and left. -/
import Derived.Test.YtglibfclhecbkaaYPiH
set_option linter.unusedSimpArgs false
namespace Pi
open Go (IntKind TypeId FuncId Fn BinOp UnOp LoopState Value Addr World Program undef Operand Sem Result Frame Item step lone Steps step_lone_go stepG)

section
variable {P : Program} {C : Ctx} {n : Nat}

theorem resL_ok {g : G} {e : Env} {m : Sto} {tm : Array Value} {w : World} (he : ER g e tm) (hw : WR P g m w) : ∀ {rs : List Go.ResultVar} {rv : List RVar} {l : List V}, compR P rs = some rv → resL e m rv = some l →
    ∃ vs : List Value, (rs.mapM (m := Sem) fun | .tmp t => pure (tm.getD t undef) | .cell a t => do Go.loadVar t (← Go.asAddr (tm.getD a undef))).run P w = .ok vs w ∧ PR g.ro l g.rho vs ∧ l.length = vs.length
  | [], rv, l, hc, hr => by
    cases hc
    cases hr
    exact ⟨[], by simp, trivial, rfl⟩
  | .tmp t :: rs, rv, l, hc, hr => by
    simp only [compR, Option.map_eq_some_iff] at hc
    obtain ⟨rv', h1, rfl⟩ := hc
    simp only [resL, resV, Option.bind_eq_some_iff, Option.map_eq_some_iff, Option.some.injEq] at hr
    obtain ⟨v, rfl, l', h2, rfl⟩ := hr
    obtain ⟨vs, h3, h4, h5⟩ := resL_ok he hw h1 h2
    exact ⟨tm.getD t undef :: vs, by simp only [List.mapM_cons, Sem.run_bind, Sem.run_pure, Result.andThen_ok, h3], ⟨_, _, rfl, he t, h4⟩, by simp [h5]⟩
  | .cell a t :: rs, rv, l, hc, hr => by
    simp only [compR, Option.bind_eq_some_iff, Option.map_eq_some_iff] at hc
    obtain ⟨ag, ha, nn, hn, rv', h1, rfl⟩ := hc
    simp only [resL, Option.bind_eq_some_iff, Option.map_eq_some_iff] at hr
    obtain ⟨v, hv, l', h2, rfl⟩ := hr
    obtain ⟨vs, h3, h4, h5⟩ := resL_ok he hw h1 h2
    have hea := he a
    simp only [resV] at hv
    split at hv
    · rename_i lo off hp
      rw [hp] at hea
      simp only [VR] at hea
      obtain ⟨b, k, e1, e2⟩ := hea
      split at hv
      · rename_i cs r hm
        obtain ⟨b', k', e3, arr, ee, f, f1, f2, f3, f4, f5⟩ := hw.obj lo _ hm
        rw [e1] at e3
        cases e3
        obtain ⟨v', h6, h7⟩ := part_rel f4 f3 hv
        refine ⟨v' :: vs, ?_, ⟨_, _, rfl, h7, h4⟩, by simp [h5]⟩
        have hA : (Go.asAddr (tm.getD a undef)).run P w = .ok { block := b, off := off } w := by rw [e2]; rfl
        simp only [List.mapM_cons, Sem.run_bind, hA, Sem.run_pure, Result.andThen_ok, run_loadVar ha hn f1 h6, h3]
      · cases hv
    · cases hv

theorem result_ok {g : G} {e : Env} {m : Sto} {tm : Array Value} {w : World} (he : ER g e tm) (hw : WR P g m w) {fn : Go.Func} {rs : List RVar} (hc : compR P fn.results.toList = some rs) {v : V} (hr : result e m rs = some v) :
    ∃ v', (Go.results fn tm).run P w = .ok v' w ∧ VR g.ro v g.rho v' := by
  simp only [result, Option.map_eq_some_iff] at hr
  obtain ⟨l, h1, h2⟩ := hr
  obtain ⟨vs, h3, h4, h5⟩ := resL_ok he hw hc h1
  have hmap : fn.results.mapM (m := Sem) (fun | .tmp t => pure (tm.getD t undef) | .cell a t => do Go.loadVar t (← Go.asAddr (tm.getD a undef))) =
      (List.toArray <$> fn.results.toList.mapM (m := Sem) fun | .tmp t => pure (tm.getD t undef) | .cell a t => do Go.loadVar t (← Go.asAddr (tm.getD a undef))) := Array.mapM_eq_mapM_toList
  have hrun : (Go.results fn tm).run P w = .ok (if h : vs.toArray.size = 1 then vs.toArray[0] else .tuple vs.toArray) w := by
    unfold Go.results
    rw [Sem.run_bind]
    have e9 : (fn.results.mapM (m := Sem) (fun | .tmp t => pure (tm.getD t undef) | .cell a t => do Go.loadVar t (← Go.asAddr (tm.getD a undef)))).run P w = .ok vs.toArray w := by
      rw [hmap, Sem.run_map, h3]; rfl
    erw [e9]
    rfl
  cases l with
  | nil =>
    cases vs with
    | nil =>
      subst h2
      exact ⟨_, hrun, by simp only [VR]; exact ⟨_, rfl, rfl, trivial⟩⟩
    | cons a b => simp at h5
  | cons x xs =>
    cases vs with
    | nil => simp at h5
    | cons a b =>
      cases xs with
      | nil =>
        cases b with
        | nil =>
          simp only at h2
          subst h2
          obtain ⟨_, _, e1, e2, _⟩ := h4
          cases e1
          exact ⟨a, by simpa using hrun, e2⟩
        | cons c d => simp at h5
      | cons y ys =>
        cases b with
        | nil => simp at h5
        | cons c d =>
          simp only at h2
          subst h2
          refine ⟨.tuple (a :: c :: d).toArray, ?_, by simp only [VR]; exact ⟨_, rfl, by simpa using h5, h4⟩⟩
          rw [hrun]
          simp

theorem s_return_def_same {cs : List Frame} {w : World} {fr : Frame} (hm : fr.mode = .returning) (hd : fr.defers = []) (hk : fr.kind = .deferred) {fn : Go.Func} (hf : P.funcs[fr.fn]? = some fn) {v : Value} (hr : (Go.results fn fr.tmps).run P w = .ok v w) (c : Frame)
    (hc : c.mode = .returning ∨ ∃ v', c.mode = .panicking [{ v := v', recovered := false }]) :
    step P (lone fr (c :: cs) w) = .next (lone c cs w) := by
  have := s_return_deferred (P := P) (cs := cs) hm hd hk hf hr c
  rcases hc with h | ⟨v', h⟩
  · simpa [h] using this
  · simpa [h] using this

theorem leave_sound (lk : Lnk P C) (ih : Sound P C n) : LeaveS P C (n + 1) := by
  intro F s pn m' x' rv' cr he N g b tm df k cs w md fn hs hfn hF hro hmd
  have hF' : compR P fn.results.toList = some F.rs := by
    simp only [compF, Option.bind_eq_some_iff, Option.map_eq_some_iff] at hF
    obtain ⟨c, _, c', _, rs, h, rfl⟩ := hF
    exact h
  unfold leave at he; simp only at he
  split at he
  · -- nothing deferred
    rename_i hds
    have hdl := hs.dl
    rw [hds] at hdl
    cases df with
    | cons a b => exact hdl.elim
    | nil =>
      cases pn with
      | none =>
        simp only [Option.map_eq_some_iff, Prod.mk.injEq] at he
        obtain ⟨v, h1, rfl, rfl, rfl, rfl⟩ := he
        obtain ⟨v', h2, h3⟩ := result_ok hs.er hs.wr hF' h1
        refine ⟨g, w, _, cs, GE.refl _, hs.wr, hs.fresh, WB.refl _, CSR.refl _ _, .refl _ _, rfl, rfl, hmd, rfl, fn, v', hfn, h2, h3⟩
      | some v =>
        simp only [Option.some.injEq, Prod.mk.injEq] at he
        obtain ⟨rfl, rfl, rfl, rfl⟩ := he
        obtain ⟨v', h1, h2⟩ := hmd
        exact ⟨g, w, _, cs, GE.refl _, hs.wr, hs.fresh, WB.refl _, CSR.refl _ _, .refl _ _, rfl, rfl, rfl, fn, v', hfn, h1, h2⟩
  · -- a mark
    rename_i l r hds
    split at he
    · rename_i hm
      have hdl := hs.dl
      rw [hds] at hdl
      cases df with
      | nil => exact hdl.elim
      | cons d df =>
        obtain ⟨⟨bl, nn, e1, rfl⟩, hdl⟩ := hdl
        obtain ⟨b', n', e2, e3, e4⟩ := hs.wr.obj l _ hm
        rw [e1] at e2
        cases e2
        have hrun : (Go.Instr.takeDeferred bl).run P w = .ok [] { w with heap := w.heap.setIfInBounds bl (.deferred none) } := by
          simp [Go.Instr.takeDeferred, run_getObj (P := P) e3, run_setObj (P := P) e3]
        have hmd' : md ≠ .run := by
          cases pn with
          | none => rw [hmd]; simp
          | some v => obtain ⟨v', h1, _⟩ := hmd; rw [h1]; simp
        have st := s_mark (P := P) (cs := cs) (w := w) (fr := { b.at tm ({ target := .collected bl, args := #[] } :: df) k with mode := md }) hmd' rfl hrun
        have wr3 := hs.wr.gone (w' := { w with heap := w.heap.setIfInBounds bl (.deferred none) }) hm e1 e4 (fun c hc => heap_set_ne hc)
        obtain ⟨g2, w2, fr, cs2, q1, q2, q3, q4, q5, q6, q7, q8, q9⟩ := ih.leave he (k := k) (cs := cs) ⟨hs.er, hs.size, hdl, wr3, hs.fresh, hs.rc, hs.rd, hs.fn⟩ hfn hF hro hmd
        exact ⟨g2, w2, fr, cs2, q1, q2, q3, (WB.setObj _ _ _).trans q4, q5, (Steps.one st).trans q6, q7, q8, q9⟩
    · cases he
  · -- a call
    rename_i f args r hds
    split at he
    · rename_i gg first cap
      simp only [Option.bind_eq_some_iff] at he
      obtain ⟨⟨cr1, m1, x1, rv1⟩, h1, h2⟩ := he
      have hdl := hs.dl
      rw [hds] at hdl
      cases df with
      | nil => exact hdl.elim
      | cons d df =>
        obtain ⟨⟨fn', a, c, cap', as', e1, rfl, e2, e3, e4, e5⟩, hdl⟩ := hdl
        cases e1
        have hmd' : md ≠ .run := by
          cases pn with
          | none => rw [hmd]; simp
          | some v => obtain ⟨v', h3, _⟩ := hmd; rw [h3]; simp
        obtain ⟨fnn, hfnn, hname, hbody⟩ : ∃ fnn, P.funcs[gg]? = some fnn ∧ fnn.name ≠ "runtime.NumGoroutine" ∧ fnn.body.isSome := by
          cases n with
          | zero => simp [enter] at h1
          | succ n =>
            simp only [enter, Option.bind_eq_some_iff] at h1
            obtain ⟨F1, hF1, _⟩ := h1
            obtain ⟨fnn, p1, p2, p3⟩ := lk.fns _ _ hF1
            refine ⟨fnn, p1, p3, ?_⟩
            simp only [compF, Option.bind_eq_some_iff] at p2
            obtain ⟨c, hc, _⟩ := p2
            simp [hc]
        have hinv : (Go.invoke (.fn (.func gg) cap') as').run P w = .ok (.enter gg (as' ++ cap')) w := by
          have hb : fnn.body.isNone = false := by cases hh : fnn.body <;> simp [hh] at hbody ⊢
          simp [Go.invoke, Go.callFunc, hfnn, hname, hb]
          try (intro h; rw [h] at hbody; simp at hbody)
        let fr0 : Frame := { b.at tm df k with mode := md }
        have st := s_deferred (P := P) (cs := cs) (w := w) (fr := { b.at tm ({ target := .fn (.func gg) cap', args := as' } :: df) k with mode := md }) hmd' rfl hinv
        have hrc : RecOK g ⟨gg, .deferred, none⟩ (some (pn.getD .ni)) (fr0 :: cs) := by
          intro v hv
          refine ⟨rfl, rfl, fr0, cs, rfl, ?_⟩
          cases pn with
          | none =>
            simp only [Option.getD_none, Option.some.injEq] at hv
            exact .inr ⟨hv.symm, hmd⟩
          | some u =>
            simp only [Option.getD_some, Option.some.injEq] at hv
            subst hv
            obtain ⟨v', h3, h4⟩ := hmd
            exact .inl ⟨v', h3, h4⟩
        obtain ⟨g2, w2, fr2, cs2, q1, q2, q3, q4, q5, q6, q7, q8, q9⟩ := ih.enter h1 (kd := .deferred) (cs := fr0 :: cs) (args := as' ++ cap')
          (by simpa using e5.append (by simpa using e4) e3) (by simp at e4 ⊢; omega) hs.wr hs.fresh hrc
        cases cr1 with
        | pan v => cases h2
        | ret v =>
          obtain ⟨z1, z2, fn2, v2, z3, z4, z5⟩ := q9
          have goes : ∀ (md2 : Go.FrameMode) (cs3 : List Frame), Steps P (lone fr2 cs2 w2) (lone { b.at tm df k with mode := md2 } cs w2) →
              (match (if rv1.isNone then none else pn) with | none => md2 = .returning | some v => ∃ v', md2 = .panicking [{ v := v', recovered := false }] ∧ VR g2.ro v g2.rho v') →
              ∃ g' w' fr cs', GE g g' ∧ WR P g' m' w' ∧ (∀ l, x' ≤ l → g'.rho l = none) ∧ WB w w' ∧ CSR s.rv cs rv' cs' ∧
                Steps P (lone { b.at tm ({ target := .fn (.func gg) cap', args := as' } :: df) k with mode := md } cs w) (lone fr cs' w') ∧ fr.fn = b.fn ∧ fr.kind = b.kd ∧ Left P g' fr w' cr := by
            intro md2 cs3 hst hm2
            obtain ⟨g3, w3, fr3, cs4, p1, p2, p3, p4, p5, p6, p7, p8, p9⟩ := ih.leave h2 (k := k) (cs := cs) (md := md2) ⟨hs.er.up q1, hs.size, hdl.up q1, q2, q3, hs.rc.up q1, hs.rd.up q1, hs.fn⟩ hfn hF hro hm2
            exact ⟨g3, w3, fr3, cs4, q1.trans p1, p2, p3, q4.trans p4, p5, (Steps.one st).trans (q6.trans (hst.trans p6)), p7, p8, p9⟩
          rcases q5 with ⟨rfl, rfl⟩ | ⟨u, hu, rfl, rfl⟩
          · -- nothing recovered
            refine goes md cs ?_ ?_
            · refine .one (s_return_def_same z1 z2 q8 z3 z4 fr0 ?_)
              cases pn with
              | none => exact .inl hmd
              | some v => obtain ⟨v', h3, _⟩ := hmd; exact .inr ⟨v', h3⟩
            · simp only [Option.isNone_some, Bool.false_eq_true, if_false]
              cases pn with
              | none => exact hmd
              | some v => obtain ⟨v', h3, h4⟩ := hmd; exact ⟨v', h3, h4.up q1⟩
          · -- recovered
            refine goes .returning cs ?_ (by simp)
            cases pn with
            | none =>
              have hrec : recovered (fr0 :: cs) = fr0 :: cs := by simp [recovered, fr0, hmd]
              rw [hrec]
              have hret := s_return_def_same (P := P) (cs := cs) (w := w2) z1 z2 q8 z3 z4 fr0 (.inl hmd)
              have : fr0 = { b.at tm df k with mode := .returning } := by simp only [fr0]; rw [hmd]
              rw [this] at hret ⊢
              exact .one hret
            | some v =>
              obtain ⟨v', h3, h4⟩ := hmd
              have hrec : recovered (fr0 :: cs) = { b.at tm df k with mode := .panicking [{ v := v', recovered := true }] } :: cs := by
                simp [recovered, fr0, h3]
              rw [hrec]
              have hret := s_return_deferred (P := P) (cs := cs) (w := w2) z1 z2 q8 z3 z4 { b.at tm df k with mode := .panicking [{ v := v', recovered := true }] }
              exact .one hret
    · cases he

theorem enter_sound (lk : Lnk P C) (ih : Sound P C n) : EnterS P C (n + 1) := by
  intro f as m m' x x' rv rv' cr he g w args kd cs hp hl hw hfr hrc
  simp only [enter, Option.bind_eq_some_iff] at he
  obtain ⟨F, hF, ⟨xx, s1⟩, h1, h2⟩ := he
  obtain ⟨fn, p1, p2, p3⟩ := lk.fns _ _ hF
  have p2' := p2
  simp only [compF, Option.bind_eq_some_iff, Option.map_eq_some_iff] at p2
  obtain ⟨c, hc, pc, hpc, rs, hrs, rfl⟩ := p2
  have hframe : Frame.enter P f args kd = (⟨f, kd, none⟩ : B).at (args ++ Array.replicate (fn.ntmps - args.size) undef) [] [.code c] := by
    simp [Frame.enter, p1, hc, B.at]
  have hs : SR P fn.ntmps g ⟨f, kd, none⟩ ⟨envOf as, m, x, [], rv, none⟩ (args ++ Array.replicate (fn.ntmps - args.size) undef) [] cs w := by
    refine ⟨?_, by simp; omega, trivial, hw, hfr, hrc, rfl, fn, p1⟩
    intro t
    simp only [envOf]
    by_cases ht : t < as.length
    · have h3 : as[t]? = some as[t] := List.getElem?_eq_getElem ht
      have ht' : t < args.size := by omega
      have h4 : args.toList[t]? = some args[t] := by simp [ht']
      have := hp.at h3 h4
      have e1 : as.getD t .un = as[t] := by simp [List.getD, h3]
      have e2 : (args ++ Array.replicate (fn.ntmps - args.size) undef).getD t undef = args[t] := by
        simp [Array.getD, ht', Array.getElem_append_left, show t < args.size + (fn.ntmps - args.size) by omega]
      rw [e1, e2]
      exact this
    · have e1 : as.getD t .un = .un := by simp [List.getD, List.getElem?_eq_none (Nat.not_lt.1 ht)]
      rw [e1]
      simp [VR]
  obtain ⟨g1, tm1, df1, cs1, w1, t1, l1⟩ := ih.exec hpc h1 [] hs
  have fin : ∀ {pn : Option V} {md : Go.FrameMode} {k2 : List Item}, leave C n ⟨pc, rs⟩ s1 pn = some (cr, m', x', rv') →
      Steps P (lone ((⟨f, kd, none⟩ : B).at (args ++ Array.replicate (fn.ntmps - args.size) undef) [] [.code c]) cs w) (lone { (⟨f, kd, none⟩ : B).at tm1 df1 k2 with mode := md } cs1 w1) →
      (match pn with | none => md = .returning | some v => ∃ v', md = .panicking [{ v := v', recovered := false }] ∧ VR g1.ro v g1.rho v') →
      ∃ g' w' fr cs', GE g g' ∧ WR P g' m' w' ∧ (∀ l, x' ≤ l → g'.rho l = none) ∧ WB w w' ∧ CSR rv cs rv' cs' ∧
        Steps P (lone (Frame.enter P f args kd) cs w) (lone fr cs' w') ∧ fr.fn = f ∧ fr.kind = kd ∧ Left P g' fr w' cr := by
    intro pn md k2 hlv hst hm
    obtain ⟨g2, w2, fr, cs2, q1, q2, q3, q4, q5, q6, q7, q8, q9⟩ := ih.leave hlv (k := k2) t1.sr p1 p2' rfl hm
    rw [hframe]
    exact ⟨g2, w2, fr, cs2, t1.ge.trans q1, q2, q3, t1.wb.trans q4, t1.cr.trans q5, hst.trans q6, q7, q8, q9⟩
  cases xx with
  | nor => exact fin h2 (Steps.trans l1 (.one (s_end rfl))) rfl
  | ret =>
    obtain ⟨k2, l1⟩ := l1
    exact fin h2 (Steps.trans l1 (.one (s_ret rfl))) rfl
  | exit id => cases h2
  | pan v =>
    obtain ⟨v', k2, e1, l1⟩ := l1
    exact fin h2 l1 ⟨v', rfl, e1⟩

end
end Pi
