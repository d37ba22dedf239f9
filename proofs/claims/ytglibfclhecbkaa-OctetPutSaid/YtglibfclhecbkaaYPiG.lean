/- The run of code: its forms, one by one. -/
import Derived.Test.YtglibfclhecbkaaYPiF
set_option linter.unusedSimpArgs false
namespace Pi
open Go (IntKind TypeId FuncId Fn BinOp UnOp LoopState Value Addr World Program undef Operand Sem Result Frame Item step lone Steps step_lone_go stepG)

section
variable {P : Program} {C : Ctx} {n : Nat}

theorem To.refl {N : Nat} {b : B} {g : G} {s : S} {tm : Array Value} {df : List Go.Deferred} {cs : List Frame} {w : World} (h : SR P N g b s tm df cs w) : To P N b g s cs w g s tm df cs w :=
  ⟨GE.refl _, h, WB.refl _, CSR.refl _ _, rfl⟩

theorem loop_sound (ih : Sound P C n) {N : Nat} {c : Go.Code} {pc : PCode} {s s' : S} {x : X} (h1 : comp P N c = some pc) (he : exec C (n + 1) (.loop pc) s = some (x, s'))
    {b : B} {tm : Array Value} {df : List Go.Deferred} {cs : List Frame} {w : World} {g : G} (k : List Item) (hs : SR P N g b s tm df cs w) {m : Go.Machine}
    (start : Steps P m (lone (b.at tm df (.code c :: .inLoop c :: k)) cs w)) :
      ∃ g' tm' df' cs' w', To P N b g s cs w g' s' tm' df' cs' w' ∧ Lands P g' b k m x tm' df' cs' w' := by
  simp only [exec, Option.bind_eq_some_iff] at he
  obtain ⟨⟨x1, s1⟩, h3, h4⟩ := he
  obtain ⟨g1, tm1, df1, cs1, w1, t1, l1⟩ := ih.exec h1 h3 (.inLoop c :: k) hs
  cases x1 with
  | nor =>
    obtain ⟨g2, tm2, df2, cs2, w2, t2, l2⟩ := ih.loop h1 h4 k t1.sr
    exact ⟨g2, tm2, df2, cs2, w2, t1.trans t2, (l2.steps l1).steps start⟩
  | exit id =>
    simp only [Option.some.injEq, Prod.mk.injEq] at h4
    obtain ⟨rfl, rfl⟩ := h4
    exact ⟨g1, tm1, df1, cs1, w1, t1, (l1.pass (by simp) (by simp)).steps start⟩
  | ret =>
    simp only [Option.some.injEq, Prod.mk.injEq] at h4
    obtain ⟨rfl, rfl⟩ := h4
    exact ⟨g1, tm1, df1, cs1, w1, t1, (l1.pass (by simp) (by simp)).steps start⟩
  | pan v =>
    simp only [Option.some.injEq, Prod.mk.injEq] at h4
    obtain ⟨rfl, rfl⟩ := h4
    exact ⟨g1, tm1, df1, cs1, w1, t1, (l1.pass (by simp) (by simp)).steps start⟩

/-- A thing is gone, and its block is no one's. -/
theorem WR.gone {g : G} {m : Sto} {w w' : World} {l b k : Nat} {o : PObj} (h : WR P g m w) (hl : m l = some o) (hr : g.rho l = some (b, k)) (hk : g.keep b = none)
    (hb : ∀ c, c ≠ b → w'.heap[c]? = w.heap[c]?) : WR P g (m.set l none) w' := by
  have aux : ∀ {j p}, m.set l none j = some p → m j = some p ∧ j ≠ l := by
    intro j p hj
    by_cases e : j = l
    · subst e; rw [Sto.set_same] at hj; cases hj
    · rw [Sto.set_ne _ _ e] at hj; exact ⟨hj, e⟩
  refine ⟨fun j q hq => ?_, fun j j' q q' c n1 n2 hq hq' => h.inj j j' q q' c n1 n2 (aux hq).1 (aux hq').1, h.ro, fun c q hq => ?_⟩
  · obtain ⟨h1, h2⟩ := aux hq
    obtain ⟨c, n1, h3, h4⟩ := h.obj j q h1
    refine ⟨c, n1, h3, h4.mono (RhoE.refl _) (RoE.refl _) id (hb c ?_)⟩
    intro e
    subst e
    exact h2 (h.inj j l q o c n1 k h1 hl h3 hr)
  · rw [hb c (fun e => by subst e; rw [hk] at hq; cases hq)]
    exact h.keep c q hq

theorem heap_push_at (w : World) (o : Go.Obj) : ({ w with heap := w.heap.push o } : World).heap[w.heap.size]? = some o := by simp

/-- A new block of another kind. -/
theorem WR.newObj {g : G} {m : Sto} {w : World} {l n : Nat} {o : PObj} {q : Go.Obj} (h : WR P g m w) (hm : g.rho l = none)
    (ho : ObR P { g with rho := g.rho.set l (w.heap.size, n) } { w with heap := w.heap.push q } w.heap.size n o) :
    WR P { g with rho := g.rho.set l (w.heap.size, n) } (m.set l (some o)) { w with heap := w.heap.push q } :=
  WR.new h hm (fun _ hb => heap_push_lt hb) ho

theorem exec_sound (ih : Sound P C n) : ExecS P C (n + 1) := by
  intro N c pc s s' x hc he b tm df cs w g k hs
  cases c <;> simp only [comp] at hc
  case skip =>
    cases hc
    simp only [exec, Option.some.injEq, Prod.mk.injEq] at he
    obtain ⟨rfl, rfl⟩ := he
    exact ⟨g, tm, df, cs, w, To.refl hs, .one s_skip⟩
  case region id ops draw =>
    have hc' : comp P N (.region id ops draw) = some pc := by simp only [comp]; exact hc
    obtain ⟨segs, rfl⟩ : ∃ segs, pc = .reg segs := by
      split at hc
      · split at hc
        · simp only [Option.map_eq_some_iff] at hc; obtain ⟨l, _, rfl⟩ := hc; exact ⟨_, rfl⟩
        · cases hc
      · simp only [Option.map_eq_some_iff] at hc; obtain ⟨l, _, rfl⟩ := hc; exact ⟨_, rfl⟩
    simp only [exec] at he
    exact ih.segs hc' he k hs
  case seq x y =>
    simp only [Option.bind_eq_some_iff, Option.map_eq_some_iff] at hc
    obtain ⟨px, h1, py, h2, rfl⟩ := hc
    simp only [exec, Option.bind_eq_some_iff] at he
    obtain ⟨⟨x1, s1⟩, h3, h4⟩ := he
    obtain ⟨g1, tm1, df1, cs1, w1, t1, l1⟩ := ih.exec h1 h3 (.code y :: k) hs
    have start : Steps P (lone (b.at tm df (.code (.seq x y) :: k)) cs w) (lone (b.at tm df (.code x :: .code y :: k)) cs w) := .one s_seq
    cases x1 with
    | nor =>
      obtain ⟨g2, tm2, df2, cs2, w2, t2, l2⟩ := ih.exec h2 h4 k t1.sr
      exact ⟨g2, tm2, df2, cs2, w2, t1.trans t2, (l2.steps l1).steps start⟩
    | exit id =>
      simp only [Option.some.injEq, Prod.mk.injEq] at h4
      obtain ⟨rfl, rfl⟩ := h4
      exact ⟨g1, tm1, df1, cs1, w1, t1, (l1.pass (by simp) (by simp)).steps start⟩
    | ret =>
      simp only [Option.some.injEq, Prod.mk.injEq] at h4
      obtain ⟨rfl, rfl⟩ := h4
      exact ⟨g1, tm1, df1, cs1, w1, t1, (l1.pass (by simp) (by simp)).steps start⟩
    | pan v =>
      simp only [Option.some.injEq, Prod.mk.injEq] at h4
      obtain ⟨rfl, rfl⟩ := h4
      exact ⟨g1, tm1, df1, cs1, w1, t1, (l1.pass (by simp) (by simp)).steps start⟩
  case cond c x y =>
    simp only [Option.bind_eq_some_iff, Option.map_eq_some_iff] at hc
    obtain ⟨c', h1, px, h2, py, h3, rfl⟩ := hc
    simp only [exec] at he
    have hv := opd_ok hs.er h1
    split at he
    · rename_i t ht
      rw [ht] at hv
      simp only [VR] at hv
      have start := Steps.one (s_cond (P := P) (b := b) (tm := tm) (df := df) (k := k) (cs := cs) (w := w) (x := x) (y := y) hv)
      cases t with
      | true =>
        obtain ⟨g1, tm1, df1, cs1, w1, t1, l1⟩ := ih.exec h2 he k hs
        exact ⟨g1, tm1, df1, cs1, w1, t1, l1.steps start⟩
      | false =>
        obtain ⟨g1, tm1, df1, cs1, w1, t1, l1⟩ := ih.exec h3 he k hs
        exact ⟨g1, tm1, df1, cs1, w1, t1, l1.steps start⟩
    · cases he
  case block id c =>
    simp only [Option.map_eq_some_iff] at hc
    obtain ⟨pc', h1, rfl⟩ := hc
    simp only [exec, Option.bind_eq_some_iff] at he
    obtain ⟨⟨x1, s1⟩, h3, h4⟩ := he
    obtain ⟨g1, tm1, df1, cs1, w1, t1, l1⟩ := ih.exec h1 h3 (.inBlock id :: k) hs
    have start : Steps P (lone (b.at tm df (.code (.block id c) :: k)) cs w) (lone (b.at tm df (.code c :: .inBlock id :: k)) cs w) := .one s_block
    cases x1 with
    | nor =>
      simp only [Option.some.injEq, Prod.mk.injEq] at h4
      obtain ⟨rfl, rfl⟩ := h4
      exact ⟨g1, tm1, df1, cs1, w1, t1, start.trans (Steps.trans l1 (.one s_inBlock))⟩
    | exit id' =>
      obtain ⟨k2, e1, e2⟩ := l1
      by_cases hid : id' = id
      · subst hid
        simp only [if_true, Option.some.injEq, Prod.mk.injEq] at h4
        obtain ⟨rfl, rfl⟩ := h4
        refine ⟨g1, tm1, df1, cs1, w1, t1, start.trans (e2.trans (.one (s_exit ?_)))⟩
        rw [e1]
        simp [Go.exitTo]
      · simp only [hid, if_false, Option.some.injEq, Prod.mk.injEq] at h4
        obtain ⟨rfl, rfl⟩ := h4
        refine ⟨g1, tm1, df1, cs1, w1, t1, k2, ?_, start.trans e2⟩
        rw [e1]
        have : (id == id') = false := by simp; exact fun e => hid e.symm
        simp [Go.exitTo, this]
    | ret =>
      simp only [Option.some.injEq, Prod.mk.injEq] at h4
      obtain ⟨rfl, rfl⟩ := h4
      obtain ⟨k2, e2⟩ := l1
      exact ⟨g1, tm1, df1, cs1, w1, t1, k2, start.trans e2⟩
    | pan v =>
      simp only [Option.some.injEq, Prod.mk.injEq] at h4
      obtain ⟨rfl, rfl⟩ := h4
      obtain ⟨v', k2, e1, e2⟩ := l1
      exact ⟨g1, tm1, df1, cs1, w1, t1, v', k2, e1, start.trans e2⟩
  case loop c =>
    simp only [Option.map_eq_some_iff] at hc
    obtain ⟨pc', h1, rfl⟩ := hc
    exact loop_sound ih h1 he k hs (.one s_loop)
  case rangeFunc f ps a bd =>
    split at hc
    · rename_i hps
      simp only [Option.bind_eq_some_iff, Option.map_eq_some_iff] at hc
      obtain ⟨f', h1, pa, h2, pb, h3, rfl⟩ := hc
      simp only [exec] at he
      split at he
      · cases he
      · rename_i hir
        -- the loop's own blocks
        obtain ⟨l, bl, n0, mk, g1, w1, hrun, hge, hwr, hfr, hrho, hdl, hwb⟩ : ∃ (l bl n0 : Nat) (mk : List Go.Deferred) (g1 : G) (w1 : World), (Go.Instr.enterLoop b.fn tm ps a bd b.ro).run P w = .ok (l, mk) w1 ∧ GE g g1 ∧
            WR P g1 ((if s.rd.isSome then s.m else s.m.set s.x (some .dfr)).set (s.x + 1) (some (.loop ⟨s.e, ps.toList, pa, pb, .ready, none⟩))) w1 ∧ (∀ j, s.x + 2 ≤ j → g1.rho j = none) ∧
            (g1.rho (s.x + 1) = some (l, 0) ∧ bl = n0) ∧ DL g1 (if s.rd.isSome then s.ds else .mark s.x :: s.ds) (mk ++ df) ∧ WB w w1 := by
          have hloop : ∀ (g0 : G) (w0 : World) (dfb : Nat), GE g g0 → LoopR P g0 ⟨s.e, ps.toList, pa, pb, .ready, none⟩ { state := .ready, pending := none, fn := b.fn, tmps := tm, params := ps, assign := a, body := bd, defers := dfb } := by
            intro g0 w0 dfb hg0
            refine ⟨hs.er.up hg0, rfl, ⟨N, hs.size, ?_, h2, h3⟩, rfl, trivial, hs.fn⟩
            intro t ht
            have := List.all_eq_true.1 hps t ht
            simpa using this
          have hx : g.rho s.x = none := hs.fresh _ (Nat.le_refl _)
          have hx1 : g.rho (s.x + 1) = none := hs.fresh _ (by omega)
          have hrd := hs.rd
          cases hsd : s.rd with
          | none =>
            rw [hsd] at hrd
            replace hrd : b.ro = none := hrd
            simp only [Option.isSome_none, Bool.false_eq_true, if_false]
            have r1 := hs.wr.newObj (l := s.x) (n := 0) (o := .dfr) (q := .deferred (some [])) hx ⟨by simp, hs.wr.keep_size⟩
            have hx1' : (g.rho.set s.x (w.heap.size, 0)) (s.x + 1) = none := by rw [rho_set_ne _ _ (by omega)]; exact hx1
            have ge1 : GE g { g with rho := g.rho.set s.x (w.heap.size, 0) } := GE.ofRho (Rho.set_ext hx)
            have ge2 : GE { g with rho := g.rho.set s.x (w.heap.size, 0) } { g with rho := (g.rho.set s.x (w.heap.size, 0)).set (s.x + 1) (w.heap.size + 1, 0) } := GE.ofRho (Rho.set_ext hx1')
            have r2 := r1.newObj (l := s.x + 1) (n := 0) (o := .loop ⟨s.e, ps.toList, pa, pb, .ready, none⟩) (q := .loop { state := .ready, pending := none, fn := b.fn, tmps := tm, params := ps, assign := a, body := bd, defers := w.heap.size }) hx1'
              ⟨_, heap_push_at _ _, hloop _ default _ (ge1.trans (by simpa using ge2)), r1.keep_size⟩
            refine ⟨w.heap.size + 1, 0, 0, [{ target := .collected w.heap.size, args := #[] }], _, _, ?_, ge1.trans (by simpa using ge2), r2, ?_, ⟨?_, rfl⟩, ?_, ⟨rfl, rfl, rfl, by simp; omega⟩⟩
            · simp [Go.Instr.enterLoop, hrd]
              rfl
            · intro j hj
              show ((g.rho.set s.x _).set (s.x + 1) _) j = none
              rw [rho_set_ne _ _ (by omega), rho_set_ne _ _ (by omega)]
              exact hs.fresh _ (by omega)
            · simp [rho_set_same]
            · refine ⟨⟨w.heap.size, 0, ?_, rfl⟩, DL.up (ge1.trans (by simpa using ge2)) hs.dl⟩
              show ((g.rho.set s.x _).set (s.x + 1) _) s.x = _
              rw [rho_set_ne _ _ (by omega), rho_set_same]
          | some lr =>
            rw [hsd] at hrd
            obtain ⟨br, nr, e1, e2⟩ := hrd
            have hlp : ∃ q, s.m lr = some (.loop q) := by
              simp only [inRound, hsd] at hir
              split at hir
              · rename_i q hq; exact ⟨q, hq⟩
              · simp at hir
            obtain ⟨q, hq⟩ := hlp
            obtain ⟨b', n', e3, lrr, e4, e5, e6⟩ := hs.wr.obj lr _ hq
            rw [e1] at e3
            cases e3
            simp only [Option.isSome_some, if_true]
            have ge1 : GE g { g with rho := g.rho.set (s.x + 1) (w.heap.size, 0) } := GE.ofRho (Rho.set_ext hx1)
            have r2 := hs.wr.newObj (l := s.x + 1) (n := 0) (o := .loop ⟨s.e, ps.toList, pa, pb, .ready, none⟩) (q := .loop { state := .ready, pending := none, fn := b.fn, tmps := tm, params := ps, assign := a, body := bd, defers := lrr.defers }) hx1
              ⟨_, heap_push_at _ _, hloop _ default _ ge1, hs.wr.keep_size⟩
            refine ⟨w.heap.size, 0, 0, [], _, _, ?_, ge1, r2, ?_, ⟨?_, rfl⟩, ?_, ⟨rfl, rfl, rfl, by simp⟩⟩
            · simp [Go.Instr.enterLoop, e2, Go.Instr.getLoop, run_getObj (P := P) e4]
            · intro j hj
              show (g.rho.set (s.x + 1) _) j = none
              rw [rho_set_ne _ _ (by omega)]
              exact hs.fresh _ (by omega)
            · simp [rho_set_same]
            · exact DL.up ge1 hs.dl
        simp only [Option.bind_eq_some_iff] at he
        obtain ⟨⟨cr, m2, x2⟩, h4, h5⟩ := he
        have hf := (opd_ok hs.er h1).up hge
        obtain ⟨nx, q1, q2, q3⟩ := ih.call h4 (args' := #[.func (.yield l) #[] #[]]) hf ⟨_, _, rfl, by simp only [VR]; exact ⟨_, _, _, rfl, ⟨l, 0, hrho.1, rfl⟩, rfl, rfl, trivial, trivial⟩, trivial⟩ rfl hwr hfr
        obtain ⟨g2, w2, ge2, wr2, fr2, wb2, hand⟩ := q3 (b.at tm (mk ++ df) (.inRangeFunc l :: k)) cs
        have start : Steps P (lone (b.at tm df (.code (.rangeFunc f ps a bd) :: k)) cs w) (lone (frameOf P nx) (b.at tm (mk ++ df) (.inRangeFunc l :: k) :: cs) w1) := by
          unfold callM at q1
          cases nx <;> simp only [isFrame] at q2
          · exact .one (s_rangeFunc hrun q1)
          · exact .one (s_rangeFunc' hrun q1)
        have ge := hge.trans ge2
        have wb := hwb.trans wb2
        have hrd2 : RdOK g2 b s.rd := RdOK.up ge hs.rd
        cases cr with
        | pan v =>
          simp only [Option.some.injEq, Prod.mk.injEq] at h5
          obtain ⟨rfl, rfl⟩ := h5
          obtain ⟨v', e1, e2⟩ := hand
          exact ⟨g2, tm, mk ++ df, cs, w2, ⟨ge, ⟨hs.er.up ge, hs.size, DL.up ge2 hdl, wr2, fr2, hs.rc.up ge, hrd2, hs.fn⟩, wb, CSR.refl _ _, rfl⟩, v', .inRangeFunc l :: k, e1, start.trans e2⟩
        | ret v =>
          obtain ⟨v', e1, e2⟩ := hand
          simp only at h5
          split at h5
          · rename_i q hq
            split at h5
            · cases h5
            · rename_i hst
              simp only [Option.some.injEq, Prod.mk.injEq] at h5
              obtain ⟨rfl, rfl⟩ := h5
              obtain ⟨b', n', e3, lr, e4, e5, e6⟩ := wr2.obj (s.x + 1) _ hq
              have hl2 := ge2.rho _ _ hrho.1
              rw [hl2] at e3
              cases e3
              obtain ⟨_, _, _, s4, s5, _⟩ := e5
              have hend : (Go.Instr.endLoop l).run P w2 = .ok lr.pending { w2 with heap := w2.heap.setIfInBounds l (.loop { lr with state := .exhausted }) } := by
                have hne : ¬ (lr.state = .busy) := by
                  rw [s4]
                  exact hst
                simp [Go.Instr.endLoop, Go.Instr.getLoop, run_getObj (P := P) e4, run_setObj (P := P) e4, hne]
              have wr3 := wr2.gone (w' := { w2 with heap := w2.heap.setIfInBounds l (.loop { lr with state := .exhausted }) }) hq hl2 e6 (fun c hc => heap_set_ne hc)
              have toEnd : Steps P (lone (b.at tm df (.code (.rangeFunc f ps a bd) :: k)) cs w) (lone (b.at tm (mk ++ df) ((lr.pending.map Item.code).toList ++ k)) cs { w2 with heap := w2.heap.setIfInBounds l (.loop { lr with state := .exhausted }) }) := by
                refine start.trans (e2.trans (.one ?_))
                exact s_endRangeFunc hend
              refine ⟨g2, tm, mk ++ df, cs, _, ⟨ge, ⟨hs.er.up ge, hs.size, DL.up ge2 hdl, wr3, fr2, hs.rc.up ge, hrd2, hs.fn⟩, wb.trans (WB.setObj _ _ _), CSR.refl _ _, rfl⟩, ?_⟩
              cases hqp : q.pend with
              | none =>
                rw [hqp] at s5
                cases hlp : lr.pending with
                | none => rw [hlp] at toEnd; exact toEnd
                | some j => rw [hlp] at s5; exact s5.elim
              | some xx =>
                rw [hqp] at s5
                cases hlp : lr.pending with
                | none => rw [hlp] at s5; cases xx <;> exact s5.elim
                | some j =>
                  rw [hlp] at s5 toEnd
                  cases xx with
                  | nor => exact s5.elim
                  | pan v => exact s5.elim
                  | ret =>
                    cases j <;> first | exact s5.elim | exact ⟨k, toEnd⟩
                  | exit id =>
                    cases j <;> first | exact s5.elim | skip
                    simp only [JR] at s5
                    subst s5
                    exact ⟨k, rfl, toEnd⟩
          · cases h5
    · cases hc
  case exit id =>
    cases hc
    simp only [exec, Option.some.injEq, Prod.mk.injEq] at he
    obtain ⟨rfl, rfl⟩ := he
    exact ⟨g, tm, df, cs, w, To.refl hs, k, rfl, .refl _ _⟩
  case scope c =>
    simp only [Option.map_eq_some_iff] at hc
    obtain ⟨pc', h1, rfl⟩ := hc
    simp only [exec] at he
    obtain ⟨g1, tm1, df1, cs1, w1, t1, l1⟩ := ih.exec h1 he (.inScope c :: k) hs
    have start : Steps P (lone (b.at tm df (.code (.scope c) :: k)) cs w) (lone (b.at tm df (.code c :: .inScope c :: k)) cs w) := .one s_scope
    cases x with
    | nor => exact ⟨g1, tm1, df1, cs1, w1, t1, start.trans (Steps.trans l1 (.one s_inScope))⟩
    | exit id => exact ⟨g1, tm1, df1, cs1, w1, t1, (l1.pass (by simp) (by simp)).steps start⟩
    | ret => exact ⟨g1, tm1, df1, cs1, w1, t1, (l1.pass (by simp) (by simp)).steps start⟩
    | pan v => exact ⟨g1, tm1, df1, cs1, w1, t1, (l1.pass (by simp) (by simp)).steps start⟩
  case ret =>
    cases hc
    simp only [exec, Option.some.injEq, Prod.mk.injEq] at he
    obtain ⟨rfl, rfl⟩ := he
    exact ⟨g, tm, df, cs, w, To.refl hs, k, .refl _ _⟩
  all_goals cases hc

end
end Pi
