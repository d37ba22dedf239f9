/- The run of code: calls. -/
import Derived.Test.YtglibfclhecbkaaYPiK
set_option linter.unusedSimpArgs false
namespace Pi
open Go (IntKind TypeId FuncId Fn BinOp UnOp LoopState Value Addr World Program undef Operand Sem Result Frame Item step lone Steps step_lone_go stepG)

section
variable {P : Program} {C : Ctx} {n : Nat}

theorem recNone {g : G} {b : B} {cs : List Frame} : RecOK g b none cs := fun v hv => by cases hv

theorem csrNone {cs cs' : List Frame} {rv' : Option V} (h : CSR none cs rv' cs') : cs' = cs ∧ rv' = none := by
  rcases h with ⟨h1, h2⟩ | ⟨v, h, _⟩
  · exact ⟨h2, h1⟩
  · cases h

theorem left_g {g g' : G} {fr : Frame} {w : World} {v v2 : V} (h : Left P g fr w (.ret v)) (k : ∀ v', VR g.ro v g.rho v' → VR g'.ro v2 g'.rho v') : Left P g' fr w (.ret v2) := by
  obtain ⟨h1, h2, fn, v', h3, h4, h5⟩ := h
  exact ⟨h1, h2, fn, v', h3, h4, k v' h5⟩
theorem left_p {g g' : G} {fr : Frame} {w : World} {v v2 : V} (h : Left P g fr w (.pan v)) (k : ∀ v', VR g.ro v g.rho v' → VR g'.ro v2 g'.rho v') : Left P g' fr w (.pan v2) := by
  obtain ⟨h2, fn, v', h3, h4, h5⟩ := h
  exact ⟨h2, fn, v', h3, h4, k v' h5⟩

/-- A closed call, from its arguments to what it hands on. -/
theorem closed_call (ih : Sound P C n) {gg : Nat} {as : List V} {m : Sto} {a : List V × List Nat} (hz : freezeL m as = some a) {cr : CR} {m1 : Sto} {x1 : Nat} {rv1 : Option V}
    (he : enter C n gg a.1 (fun _ => none) 0 none = some (cr, m1, x1, rv1)) {g : G} {w : World} {args : Array Value} (hp : PR g.ro as g.rho args.toList) (hl : as.length = args.size) (hw : WR P g m w) {v : V} (hv : cr = .ret v ∨ cr = .pan v) {r : V × List Nat} (hf : freeze m1 v = some r)
    (fr : Frame) (cs : List Frame) :
    ∃ w1, WB w w1 ∧ WR P g m w1 ∧ (r.1.scal = true → Handed P g (lone (Frame.enter P gg args .normal) (fr :: cs) w) fr cs w1 (match cr with | .ret _ => .ret r.1 | .pan _ => .pan r.1)) ∧
      ∃ g', g'.rho = g.rho ∧ GE g g' ∧ WR P g' (markRo m a.2) w1 ∧ Handed P g' (lone (Frame.enter P gg args .normal) (fr :: cs) w) fr cs w1 (match cr with | .ret _ => .ret r.1 | .pan _ => .pan r.1) := by
  have hs : Seen g (lock g.ro (Lent g a.2) w) w a.2 := by
    intro l hl b k hb
    unfold lock
    rw [if_pos ⟨l, hl, k, hb⟩]
  have hp2 : PR (shut g a.2 w).ro a.1 (shut g a.2 w).rho args.toList := freezeL_ok hw (lock_ext hw _) hz hs hp
  obtain ⟨g1, w1, fr1, cs1, q1, q2, q3, q4, q5, q6, q7, q8, q9⟩ := ih.enter he (kd := .normal) (cs := fr :: cs) hp2 ((frzL_len hz).trans hl) (shut_wr hw a.2) (fun l _ => rfl) recNone
  obtain ⟨rfl, _⟩ := csrNone q5
  have key : ∀ v', VR g1.ro v g1.rho v' → _ := fun v' hv' => closed_ok hw (freezeL_there hz) q1 q2 q4 hv' hf
  rcases hv with rfl | rfl
  · have q9' := q9
    obtain ⟨z1, z2, fn, v', z3, z4, z5⟩ := q9
    obtain ⟨k1, k2, g', k3, k4, k5, k6⟩ := key v' z5
    refine ⟨w1, q4, k1, fun hsc => ?_, g', k3, k4, k5, ?_⟩
    · exact Handed.steps q6 (left_steps (cr := .ret r.1) q8 ⟨z1, z2, fn, v', z3, z4, k2 hsc⟩)
    · exact Handed.steps q6 (left_steps (cr := .ret r.1) q8 ⟨z1, z2, fn, v', z3, z4, k6⟩)
  · obtain ⟨z2, fn, v', z3, z4, z5⟩ := q9
    obtain ⟨k1, k2, g', k3, k4, k5, k6⟩ := key v' z5
    refine ⟨w1, q4, k1, fun hsc => ?_, g', k3, k4, k5, ?_⟩
    · exact Handed.steps q6 (left_steps (cr := .pan r.1) q8 ⟨z2, fn, v', z3, z4, k2 hsc⟩)
    · exact Handed.steps q6 (left_steps (cr := .pan r.1) q8 ⟨z2, fn, v', z3, z4, k6⟩)

theorem WR.notThere {g : G} {m : Sto} {w : World} (h : WR P g m w) {x : Nat} (hx : g.rho x = none) : m x = none := by
  cases hm : m x with
  | none => rfl
  | some o =>
    obtain ⟨b, k, e, _⟩ := h.obj x o hm
    rw [hx] at e
    cases e

theorem round_at {l : Nat} {f : FuncId} {tm : Array Value} {as bd : Go.Code} : Frame.round l f tm as bd .normal = (⟨f, .normal, some l⟩ : B).at tm [] [.code as, .beginRound, .code bd] := rfl

theorem call_sound (lk : Lnk P C) (ih : Sound P C n) : CallS P C (n + 1) := by
  intro f args m m' x x' cr he g w f' args' hf ha hl hw hfr
  unfold callV at he
  simp only at he
  split at he
  · -- a function
    rename_i gg first cap
    simp only [VR] at hf
    obtain ⟨f2, a', c', rfl, hfr2, e1, e2, e3, e4⟩ := hf
    replace hfr2 : f2 = .func gg := hfr2
    subst hfr2
    have hpr : PR g.ro (first ++ args ++ cap) g.rho (a' ++ args' ++ c').toList := by
      have h1 := e3.append (by simpa using e1) ha
      have h2 := h1.append (by simp; omega) e4
      simpa using h2
    have hlen : (first ++ args ++ cap).length = (a' ++ args' ++ c').size := by simp; omega
    split at he
    · rename_i h hprim
      simp only [Option.map_eq_some_iff, Prod.mk.injEq] at he
      obtain ⟨⟨v, ws⟩, h1, rfl, rfl, rfl⟩ := he
      obtain ⟨⟨fn, p1, p2, p3⟩, _, hp⟩ := lk.prim _ _ hprim
      have hrun := hp h1 hpr hlen hw (hfr x (Nat.le_refl _)) (hw.notThere (hfr x (Nat.le_refl _)))
      refine ⟨.enter gg (a' ++ args' ++ c'), callM_func p1 p2 p3 _ _ _ _, trivial, fun fr cs => ?_⟩
      obtain ⟨v', w', h', q1, q2, q3, q4, q5, q6⟩ := hrun fr cs
      refine ⟨{ g with rho := h' }, w', GE.ofRho q1, q4, fun l hl => ?_, q5, v', q3, q6⟩
      show h' l = none
      rw [q2 l (by omega)]
      exact hfr l (by omega)
    · split at he
      · -- open
        simp only [Option.map_eq_some_iff, Prod.mk.injEq] at he
        obtain ⟨⟨cr1, m1, x1, rv1⟩, h1, rfl, rfl, rfl⟩ := he
        obtain ⟨fn, p1, p2, p3⟩ := enter_known lk h1
        refine ⟨.enter gg (a' ++ args' ++ c'), callM_func p1 p2 p3 _ _ _ _, trivial, fun fr cs => ?_⟩
        obtain ⟨g1, w1, fr1, cs1, q1, q2, q3, q4, q5, q6, q7, q8, q9⟩ := ih.enter h1 (kd := .normal) (cs := fr :: cs) hpr hlen hw hfr recNone
        obtain ⟨rfl, _⟩ := csrNone q5
        exact ⟨g1, w1, q1, q2, q3, q4, Handed.steps q6 (left_steps q8 q9)⟩
      · -- closed
        rename_i a hz
        split at hz
        · cases hz
        · simp only [Option.bind_eq_some_iff] at he
          obtain ⟨⟨cr1, m1, x1, rv1⟩, h1, h2⟩ := he
          obtain ⟨fn, p1, p2, p3⟩ := enter_known lk h1
          refine ⟨.enter gg (a' ++ args' ++ c'), callM_func p1 p2 p3 _ _ _ _, trivial, fun fr cs => ?_⟩
          cases cr1 with
          | pan v =>
            simp only [Option.bind_eq_some_iff] at h2
            obtain ⟨r, h3, h4⟩ := h2
            split at h4
            · rename_i hsc
              simp only [Option.some.injEq, Prod.mk.injEq] at h4
              obtain ⟨rfl, rfl, rfl⟩ := h4
              obtain ⟨w1, k1, k2, k3, _⟩ := closed_call ih hz h1 hpr hlen hw (.inr rfl) h3 fr cs
              exact ⟨g, w1, GE.refl _, k2, hfr, k1, k3 hsc⟩
            · cases h4
          | ret v =>
            simp only [Option.bind_eq_some_iff, Option.some.injEq, Prod.mk.injEq] at h2
            obtain ⟨r, h3, rfl, h4, rfl⟩ := h2
            obtain ⟨w1, k1, k2, k3, g', k4, k5, k6, k7⟩ := closed_call ih hz h1 hpr hlen hw (.inl rfl) h3 fr cs
            by_cases hsc : r.1.scal = true
            · rw [if_pos hsc] at h4
              subst h4
              exact ⟨g, w1, GE.refl _, k2, hfr, k1, k3 hsc⟩
            · rw [if_neg hsc] at h4
              subst h4
              exact ⟨g', w1, k5, k6, fun l hl => by rw [k4]; exact hfr l hl, k1, k7⟩
  · -- a round
    rename_i ll
    simp only [VR] at hf
    obtain ⟨f2, a', c', rfl, ⟨bl, kk, hrho, rfl⟩, e1, e2, _, _⟩ := hf
    have ea : a' = #[] := Array.eq_empty_of_size_eq_zero (by simpa using e1.symm)
    subst ea
    split at he
    · rename_i q hq
      split at he
      · rename_i hst
        simp only [Option.bind_eq_some_iff] at he
        obtain ⟨e, hset, ⟨xx, s1⟩, h1, h2⟩ := he
        obtain ⟨b', n', e3, lr, e4, ⟨l1, l2, ⟨N, l3, l4, l5, l6⟩, l7, l8, lfn⟩, e6⟩ := hw.obj ll _ hq
        rw [hrho] at e3
        cases e3
        obtain ⟨s_er, s_size, s_len⟩ := setAll_ok (N := N) hset l1 l3 l4 ha hl
        have hps : lr.params.size = args'.size := by
          have := congrArg List.length l2
          simp at this
          simp at s_len
          omega
        let tms : Array Value := (lr.params.zip args').foldl (fun tmps (t, a) => tmps.setIfInBounds t a) lr.tmps
        have htms : tms = (q.ps.zip args'.toList).foldl (fun tmps p => tmps.setIfInBounds p.1 p.2) lr.tmps := by
          simp only [tms]
          rw [← l2, ← Array.toList_zip, ← Array.foldl_toList]
        have hrun : (callM (.func (.yield bl) #[] c') args').run P w = .ok (.round bl lr.fn tms lr.assign lr.body) w := by
          simp [callM, Go.Deferred.ofValue, Go.invoke, Go.Instr.yield, Go.Instr.getLoop, run_getObj (P := P) e4, hps, tms]
        refine ⟨_, hrun, trivial, fun fr cs => ?_⟩
        let b0 : B := ⟨lr.fn, .normal, some bl⟩
        have hs : SR P N g b0 ⟨e, m, x, [], none, some ll⟩ tms [] (fr :: cs) w :=
          ⟨by rw [htms]; exact s_er, by rw [htms]; exact s_size, trivial, hw, hfr, recNone, ⟨bl, kk, hrho, rfl⟩, lfn⟩
        obtain ⟨g1, tm1, df1, cs1, w1, t1, q1⟩ := ih.exec l5 h1 [.beginRound, .code lr.body] hs
        cases xx with
        | nor =>
          simp only at h2
          split at h2
          · rename_i q' hq'
            split at h2
            · cases h2
            · rename_i hst'
              have hst' : q'.st = .ready := by simpa using hst'
              simp only [Option.bind_eq_some_iff] at h2
              obtain ⟨⟨z, s2⟩, h3, h4⟩ := h2
              obtain ⟨c1, _⟩ := csrNone t1.cr
              subst c1
              have hrho1 := t1.ge.rho _ _ hrho
              obtain ⟨b', n', e7, lr1, e8, ⟨m1, m2, m3, m7, m8, mfn⟩, e9⟩ := t1.sr.wr.obj ll _ hq'
              rw [hrho1] at e7
              cases e7
              have hbeg : (Go.Instr.beginRound bl).run P w1 = .ok () { w1 with heap := w1.heap.setIfInBounds bl (.loop { lr1 with state := .busy }) } := by
                have : lr1.state = .ready := m7.trans hst'
                simp [Go.Instr.beginRound, Go.Instr.getLoop, run_getObj (P := P) e8, run_setObj (P := P) e8, this]
              have hlt1 : bl < w1.heap.size := (Array.getElem?_eq_some_iff.1 e8).1
              have wr2 : WR P g1 (s1.m.set ll (some (.loop { q' with st := .busy }))) { w1 with heap := w1.heap.setIfInBounds bl (.loop { lr1 with state := .busy }) } :=
                t1.sr.wr.put hq' hrho1 e9 (fun c hc => heap_set_ne hc) ⟨{ lr1 with state := .busy }, by simp [hlt1], ⟨m1, m2, m3, rfl, m8, mfn⟩, e9⟩
              have hs2 : SR P N g1 b0 { s1 with m := s1.m.set ll (some (.loop { q' with st := .busy })) } tm1 df1 (fr :: cs) { w1 with heap := w1.heap.setIfInBounds bl (.loop { lr1 with state := .busy }) } :=
                ⟨t1.sr.er, t1.sr.size, t1.sr.dl, wr2, t1.sr.fresh, t1.sr.rc, t1.sr.rd, t1.sr.fn⟩
              obtain ⟨g2, tm2, df2, cs2, w2, t2, q2⟩ := ih.exec l6 h3 [] hs2
              have hrv1 : s1.rv = none := (csrNone t1.cr).2
              have hc2 : cs2 = fr :: cs := by
                have := t2.cr
                simp only [hrv1] at this
                exact (csrNone this).1
              subst hc2
              have toBody : Steps P (lone (frameOf P (.round bl lr.fn tms lr.assign lr.body)) (fr :: cs) w) (lone (b0.at tm1 df1 [.code lr.body]) (fr :: cs) { w1 with heap := w1.heap.setIfInBounds bl (.loop { lr1 with state := .busy }) }) :=
                Steps.trans q1 (.one (s_beginRound (b := b0) rfl hbeg))
              have ge : GE g g2 := t1.ge.trans t2.ge
              have wb : WB w w2 := t1.wb.trans ((WB.setObj _ _ _).trans t2.wb)
              have hrho2 := t2.ge.rho _ _ hrho1
              simp only at h4
              split at h4
              · cases h4
              · rename_i hds
                have hdf : df2 = [] := by
                  have h5 := t2.sr.dl
                  have h6 : s2.ds = [] := by simpa using hds
                  rw [h6] at h5
                  cases df2 with
                  | nil => rfl
                  | cons a b => exact h5.elim
                subst hdf
                -- how a round ends that does not panic
                have fin : ∀ (j : Option Go.Code) (pd : Option X) (q'' : LoopRec) (fr2 : Frame), JR pd j → s2.m ll = some (.loop q'') →
                    Steps P (lone (b0.at tm1 df1 [.code lr.body]) (fr :: cs) { w1 with heap := w1.heap.setIfInBounds bl (.loop { lr1 with state := .busy }) }) (lone fr2 (fr :: cs) w2) →
                    (∀ {v : Value} {w3 : World}, (Go.Instr.endRound bl j).run P w2 = .ok v w3 → step P (lone fr2 (fr :: cs) w2) = .next (lone (fr.finish v) cs w3)) →
                    ∃ g' w', GE g g' ∧ WR P g' (s2.m.set ll (some (.loop { q'' with st := if j.isNone then .ready else .done, pend := pd }))) w' ∧ (∀ l, s2.x ≤ l → g'.rho l = none) ∧ WB w w' ∧
                      Handed P g' (lone (frameOf P (.round bl lr.fn tms lr.assign lr.body)) (fr :: cs) w) fr cs w' (.ret (.b j.isNone)) := by
                  intro j pd q'' fr2 hj hq'' hst2 hstep
                  obtain ⟨b', n', e10, lr2, e11, ⟨n1, n2, n3, n7, n8, nfn⟩, e12⟩ := t2.sr.wr.obj ll _ hq''
                  rw [hrho2] at e10
                  cases e10
                  have hend : (Go.Instr.endRound bl j).run P w2 = .ok (.bool j.isNone) { w2 with heap := w2.heap.setIfInBounds bl (.loop { lr2 with state := if j.isNone then .ready else .done, pending := j }) } := by
                    simp [Go.Instr.endRound, Go.Instr.getLoop, run_getObj (P := P) e11, run_setObj (P := P) e11]
                  have hlt2 : bl < w2.heap.size := (Array.getElem?_eq_some_iff.1 e11).1
                  refine ⟨g2, _, ge, t2.sr.wr.put (w' := { w2 with heap := w2.heap.setIfInBounds bl (.loop { lr2 with state := if j.isNone then .ready else .done, pending := j }) }) hq'' hrho2 e12 (fun c hc => heap_set_ne hc) ⟨{ lr2 with state := if j.isNone then .ready else .done, pending := j }, by simp [hlt2], ⟨n1, n2, n3, rfl, hj, nfn⟩, e12⟩, t2.sr.fresh, wb.trans (WB.setObj _ _ _), .bool j.isNone, by simp [VR], toBody.trans (hst2.trans (.one (hstep hend)))⟩
                split at h4
                · -- panic
                  simp only [Option.some.injEq, Prod.mk.injEq] at h4
                  obtain ⟨rfl, rfl, rfl⟩ := h4
                  obtain ⟨v', k2, r1, r2⟩ := q2
                  obtain ⟨fn0, hfn0⟩ := lfn
                  exact ⟨g2, w2, ge, t2.sr.wr, t2.sr.fresh, wb, v', r1, toBody.trans (r2.trans (.one (s_raise rfl rfl (fn := fn0) hfn0 fr)))⟩
                · -- on
                  rename_i q'' hq''
                  simp only [Option.some.injEq, Prod.mk.injEq] at h4
                  obtain ⟨rfl, rfl, rfl⟩ := h4
                  exact fin none none q'' _ trivial hq'' q2 (fun h => s_endRound_nor (b := b0) rfl rfl h fr)
                · rename_i yy y oo q'' hp1 hp2 hq''
                  simp only [Option.some.injEq, Prod.mk.injEq] at h4
                  obtain ⟨rfl, rfl, rfl⟩ := h4
                  cases yy with
                  | nor => exact absurd rfl hp2
                  | pan v => exact absurd rfl (hp1 v)
                  | ret =>
                    obtain ⟨k2, r2⟩ := q2
                    exact fin (some .ret) (some .ret) q'' _ trivial hq'' r2 (fun h => s_endRound_ret (b := b0) rfl rfl h fr)
                  | exit id =>
                    obtain ⟨k2, r1, r2⟩ := q2
                    exact fin (some (.exit id)) (some (.exit id)) q'' _ rfl hq'' r2 (fun h => s_endRound_exit (b := b0) rfl rfl (r1.trans rfl) h fr)
                · cases h4
          · cases h2
        | ret => cases h2
        | exit id => cases h2
        | pan v => cases h2
      · cases he
    · cases he
  · cases he

end
end Pi
