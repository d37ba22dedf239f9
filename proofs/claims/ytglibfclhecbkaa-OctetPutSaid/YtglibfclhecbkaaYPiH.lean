/- The run of code: a region's operations in order. -/
import Derived.Test.YtglibfclhecbkaaYPiG
set_option linter.unusedSimpArgs false
namespace Pi
open Go (IntKind TypeId FuncId Fn BinOp UnOp LoopState Value Addr World Program undef Operand Sem Result Frame Item step lone Steps step_lone_go stepG)

section
variable {P : Program} {C : Ctx} {n : Nat}

theorem wanted_ok {g : G} {e : Env} {tm : Array Value} (he : ER g e tm) {ops : Array Go.Oper} {o : Go.Oper} {gd : Option (Nat × Bool)} (hg : compGuard ops o = some gd) {c : Bool} (hw : wanted gd e = some c) :
    Go.Region.wanted o (Go.yielded ops tm) = c := by
  unfold compGuard at hg
  split at hg
  · rename_i h0
    cases hg
    simp only [wanted, Option.some.injEq] at hw
    subst hw
    simp [Go.Region.wanted, h0]
  · rename_i j w h0
    simp only [Option.bind_eq_some_iff, Option.map_eq_some_iff] at hg
    obtain ⟨p, h1, t, h2, rfl⟩ := hg
    have ht := he t
    simp only [wanted] at hw
    split at hw
    · rename_i cc hc
      simp only [Option.some.injEq] at hw
      rw [hc] at ht
      simp only [VR] at ht
      have hget : tm[t]? = some (.bool cc) := by
        rcases Nat.lt_or_ge t tm.size with h | h
        · simp [Array.getD, h] at ht
          simp [h, ht]
        · simp [Array.getD, Nat.not_lt.2 h, undef] at ht
      simp [Go.Region.wanted, h0, Go.yielded, h1, h2, hget, hw]
    · rename_i hc
      simp only [Option.some.injEq] at hw
      subst hw
      rw [hc] at ht
      simp only [VR] at ht
      obtain ⟨arr, e1, _⟩ := ht
      have hget : ∀ bb, tm[t]? ≠ some (.bool bb) := by
        intro bb hh
        have hlt := (Array.getElem?_eq_some_iff.1 hh).1
        have hh2 := (Array.getElem?_eq_some_iff.1 hh).2
        simp [Array.getD, hlt, hh2] at e1
      have hy : Go.yielded ops tm j = none := by
        simp only [Go.yielded, h1, Option.bind_some, h2] <;> (split <;> first | rfl | (rename_i bb hbb; exact absurd hbb (hget bb)))
      simp [Go.Region.wanted, h0, hy]
    · cases hw

theorem ER.put {g : G} {e : Env} {tm : Array Value} {N : Nat} (h : ER g e tm) (hN : N ≤ tm.size) {d : Nat} (hd : d < N) {v : V} {v' : Value} (hv : VR g.ro v g.rho v') : ER g (e.set d v) (tm.setIfInBounds d v') := by
  intro t
  by_cases e1 : t = d
  · subst e1
    simp only [Env.set, if_true]
    have : t < tm.size := by omega
    simp [Array.getD, this]
    exact hv
  · simp only [Env.set, e1, if_false]
    have := h t
    simp only [Array.getD, Array.size_setIfInBounds] at this ⊢
    split
    · rename_i hlt
      simp only [hlt, dif_pos] at this
      rw [Array.getInternal_eq_getElem] at this ⊢
      rw [Array.getElem_setIfInBounds_ne (by simpa using hlt) (fun e => e1 e.symm)]
      exact this
    · rename_i hlt
      simp only [hlt, dif_neg, not_false_eq_true] at this
      exact this

theorem SR.put {N : Nat} {g : G} {b : B} {s : S} {tm : Array Value} {df : List Go.Deferred} {cs : List Frame} {w : World} (h : SR P N g b s tm df cs w) {d : Option Nat} (hd : d.all (· < N) = true) {v : V} {v' : Value} (hv : VR g.ro v g.rho v') :
    SR P N g b (s.put d v) (putT tm d v') df cs w := by
  cases d with
  | none => exact h
  | some t =>
    have ht : t < N := by simpa using hd
    exact ⟨h.er.put h.size ht hv, by simp [putT]; exact h.size, h.dl, h.wr, h.fresh, h.rc, h.rd, h.fn⟩

theorem put_rd (s : S) (d : Option Nat) (v : V) : (s.put d v).rd = s.rd := by cases d <;> rfl
theorem put_rv (s : S) (d : Option Nat) (v : V) : (s.put d v).rv = s.rv := by cases d <;> rfl

theorem comp_ca {o : Go.Op} {f : Opd} {l : List Opd} (h : compOp P o = some (.ca f l)) : ∃ c fo, o = .call c ∧ c.callee = .value fo ∧ opd fo = some f ∧ opds c.args.toList = some l := by
  cases o <;> simp only [compOp] at h
  case call c =>
    obtain ⟨callee, args, at'⟩ := c
    cases callee with
    | value fo =>
      simp only [compCall, Option.bind_eq_some_iff, Option.map_eq_some_iff] at h
      obtain ⟨f', h1, l', h2, h3⟩ := h
      cases h3
      exact ⟨_, fo, rfl, rfl, h1, h2⟩
    | invoke r nm => cases h
    | builtin bb =>
      exfalso
      revert h
      cases bb <;> simp only [compCall] <;> (repeat' split) <;> simp [Option.bind_eq_some_iff, Option.map_eq_some_iff]
      all_goals (try (intros; (repeat' split) <;> simp [Option.bind_eq_some_iff]))
  case makeMap t r => cases r <;> cases h
  all_goals
    exfalso
    revert h
    repeat' split
    all_goals simp [Option.bind_eq_some_iff, Option.map_eq_some_iff]
    all_goals (try (intros; (repeat' split) <;> simp [Option.bind_eq_some_iff]))

theorem comp_pa {o : Go.Op} {x : Opd} (h : compOp P o = some (.pa x)) : ∃ xo, o = .panic xo ∧ opd xo = some x := by
  cases o <;> simp only [compOp] at h
  case panic xo =>
    simp only [Option.map_eq_some_iff] at h
    obtain ⟨y, h1, h2⟩ := h
    cases h2
    exact ⟨xo, rfl, h1⟩
  case call c =>
    obtain ⟨callee, args, at'⟩ := c
    exfalso
    revert h
    cases callee with
    | value fo => simp [compCall, Option.bind_eq_some_iff, Option.map_eq_some_iff]
    | invoke r nm => simp [compCall]
    | builtin bb =>
      cases bb <;> simp only [compCall] <;> (repeat' split) <;> simp [Option.bind_eq_some_iff, Option.map_eq_some_iff]
      all_goals (try (intros; (repeat' split) <;> simp [Option.bind_eq_some_iff]))
  case makeMap t r => cases r <;> cases h
  all_goals
    exfalso
    revert h
    repeat' split
    all_goals simp [Option.bind_eq_some_iff, Option.map_eq_some_iff]
    all_goals (try (intros; (repeat' split) <;> simp [Option.bind_eq_some_iff]))

theorem comp_df {o : Go.Op} {f : Opd} {l : List Opd} (h : compOp P o = some (.df f l)) : ∃ c fo, o = .defer c ∧ c.callee = .value fo ∧ opd fo = some f ∧ opds c.args.toList = some l := by
  cases o <;> simp only [compOp] at h
  case defer c =>
    obtain ⟨callee, args, at'⟩ := c
    cases callee with
    | value fo =>
      simp only [Option.bind_eq_some_iff, Option.map_eq_some_iff] at h
      obtain ⟨f', h1, l', h2, h3⟩ := h
      cases h3
      exact ⟨_, fo, rfl, rfl, h1, h2⟩
    | invoke r nm => cases h
    | builtin bb => cases h
  case call c =>
    obtain ⟨callee, args, at'⟩ := c
    exfalso
    revert h
    cases callee with
    | value fo => simp [compCall, Option.bind_eq_some_iff, Option.map_eq_some_iff]
    | invoke r nm => simp [compCall]
    | builtin bb =>
      cases bb <;> simp only [compCall] <;> (repeat' split) <;> simp [Option.bind_eq_some_iff, Option.map_eq_some_iff]
      all_goals (try (intros; (repeat' split) <;> simp [Option.bind_eq_some_iff]))
  case makeMap t r => cases r <;> cases h
  all_goals
    exfalso
    revert h
    repeat' split
    all_goals simp [Option.bind_eq_some_iff, Option.map_eq_some_iff]
    all_goals (try (intros; (repeat' split) <;> simp [Option.bind_eq_some_iff]))

theorem comp_rc {o : Go.Op} (h : compOp P o = some .rc) : ∃ c, o = .call c ∧ c.callee = .builtin .recover := by
  cases o <;> simp only [compOp] at h
  case call c =>
    obtain ⟨callee, args, at'⟩ := c
    revert h
    cases callee with
    | value fo => simp [compCall, Option.bind_eq_some_iff, Option.map_eq_some_iff]
    | invoke r nm => simp [compCall]
    | builtin bb =>
      cases bb <;> simp only [compCall] <;> (repeat' split) <;> simp [Option.bind_eq_some_iff, Option.map_eq_some_iff]
      all_goals (try (intros; (repeat' split) <;> simp [Option.bind_eq_some_iff]))
  case makeMap t r => cases r <;> cases h
  all_goals
    exfalso
    revert h
    repeat' split
    all_goals simp [Option.bind_eq_some_iff, Option.map_eq_some_iff]
    all_goals (try (intros; (repeat' split) <;> simp [Option.bind_eq_some_iff]))

theorem run_call {tm : Array Value} {o : Go.Oper} {c : Go.Call} {fo : Operand} (ho : o.op = .call c) (hc : c.callee = .value fo) (w : World) :
    (Go.execOp (evT tm) o).run P w = (callM (evT tm fo) (c.args.map (evT tm))).run P w := by
  simp only [Go.execOp, ho, Go.resolve, hc, callM]

theorem ops_sound (ih : Sound P C n) : OpsS P C (n + 1) := by
  intro N ops is ps s s' x hr he b tm df cs w g rest k hs
  cases ps with
  | nil =>
    cases is with
    | nil =>
      simp only [runOps, Option.some.injEq, Prod.mk.injEq] at he
      obtain ⟨rfl, rfl⟩ := he
      exact ⟨g, tm, df, cs, w, To.refl hs, .refl _ _, by simp, by simp⟩
    | cons i is => exact hr.elim
  | cons p ps =>
    cases is with
    | nil => exact hr.elim
    | cons i is =>
      obtain ⟨⟨oper, ho, hco⟩, hr⟩ := hr
      unfold compOper at hco
      split at hco
      · rename_i hdst
        simp only [Option.map_eq_some_iff] at hco
        obtain ⟨gd, hgd, rfl⟩ := hco
        simp only [runOps] at he
        split at he
        · cases he
        · -- not wanted
          rename_i hwt
          have hw := wanted_ok hs.er hgd hwt
          have hs1 := hs.put hdst (v := .tu []) (v' := undef) (by simp only [VR]; exact ⟨#[], rfl, rfl, trivial⟩)
          obtain ⟨g', tm', df', cs', w', t, l, e1, e2⟩ := ih.ops hr he rest k hs1
          have step1 := Steps.one (s_op_skip (P := P) (b := b) (tm := tm) (df := df) (k := k) (cs := cs) (w := w) (rest := is ++ rest) ho hw)
          refine ⟨g', tm', df', cs', w', ⟨t.ge, t.sr, t.wb, by rw [← put_rv s oper.dst (.tu [])]; exact t.cr, by rw [t.rd, put_rd]⟩, l.steps step1, e1, e2⟩
        · rename_i hwt
          have hw := wanted_ok hs.er hgd hwt
          cases hpo : compOp P oper.op with
          | none =>
            rw [hpo] at he
            simp [opD] at he
          | some po =>
            rw [hpo] at he
            simp only [Option.getD_some] at he
            -- an operation that only tells a value and writes
            have plain : ∀ {v : V} {ws : Ws}, opD po s.e s.m s.x = some (v, ws) → (∀ c, oper.op ≠ .defer c) →
                runOps C n ps ({ s with m := s.m.app ws, x := s.x + 1 }.put oper.dst v) = some (x, s') →
                ∃ g' tm' df' cs' w', To P N b g s cs w g' s' tm' df' cs' w' ∧ Lands P g' b (.inRegion ops rest :: k) (lone (b.at tm df (.inRegion ops ((i :: is) ++ rest) :: k)) cs w) x tm' df' cs' w' ∧ (∀ id, x ≠ .exit id) ∧ x ≠ .ret := by
              intro v ws hop hnd hrest
              obtain ⟨v', w1, h', h1, h2, h3, h4, h5, h6⟩ := opD_sound hs.wr (hs.fresh _ (Nat.le_refl _)) hs.er hpo hop rfl
              have step1 := Steps.one (s_op (P := P) (b := b) (tm := tm) (df := df) (k := k) (cs := cs) (rest := is ++ rest) ho hw (.inr hnd) h1)
              have ge : GE g { g with rho := h' } := GE.ofRho h2
              have hs0 : SR P N { g with rho := h' } b { s with m := s.m.app ws, x := s.x + 1 } tm df cs w1 :=
                ⟨hs.er.up ge, hs.size, hs.dl.up ge, h5, fun l hl => by
                  show h' l = none
                  rw [h3 l (by simp only at hl; omega)]
                  exact hs.fresh l (by simp only at hl; omega), hs.rc.up ge, RdOK.up ge hs.rd, hs.fn⟩
              have hs1 := hs0.put hdst (v := v) (v' := v') h4
              obtain ⟨g', tm', df', cs', w', t, l, e1, e2⟩ := ih.ops hr hrest rest k hs1
              refine ⟨g', tm', df', cs', w', ⟨ge.trans t.ge, t.sr, h6.trans t.wb, ?_, ?_⟩, l.steps step1, e1, e2⟩
              · have := t.cr
                rw [put_rv] at this
                exact this
              · rw [t.rd, put_rd]
            have nodefer : (∀ f l, po ≠ .df f l) → ∀ c, oper.op ≠ .defer c := by
              intro hnd c hc
              rw [hc] at hpo
              simp only [compOp] at hpo
              split at hpo
              · simp only [Option.bind_eq_some_iff, Option.map_eq_some_iff] at hpo
                obtain ⟨_, _, _, _, rfl⟩ := hpo
                exact hnd _ _ rfl
              · cases hpo
            cases po
            case ca f args =>
              obtain ⟨c, fo, hc1, hc2, hc3, hc4⟩ := comp_ca hpo
              simp only [Option.bind_eq_some_iff] at he
              obtain ⟨⟨cr, m2, x2⟩, h1, h2⟩ := he
              obtain ⟨ha1, ha2⟩ := opds_ok hs.er hc4
              obtain ⟨nx, q1, q2, q3⟩ := ih.call h1 (opd_ok hs.er hc3) (args' := c.args.map (evT tm)) (by simpa using ha1) (by simp [ha2]) hs.wr hs.fresh
              obtain ⟨g2, w2, ge2, wr2, fr2, wb2, hand⟩ := q3 (b.at tm df (.inRegion ops ((i :: is) ++ rest) :: k)) cs
              have hnd : ∀ c, oper.op ≠ .defer c := by intro c'; rw [hc1]; simp
              have start : Steps P (lone (b.at tm df (.inRegion ops ((i :: is) ++ rest) :: k)) cs w) (lone (frameOf P nx) (b.at tm df (.inRegion ops ((i :: is) ++ rest) :: k) :: cs) w) := by
                rw [← run_call hc1 hc2] at q1
                cases nx <;> simp only [isFrame] at q2
                · exact .one (s_op_enter ho hw (.inr hnd) q1)
                · exact .one (s_op_round ho hw (.inr hnd) q1)
              have hs0 : SR P N g2 b { s with m := m2, x := x2 } tm df cs w2 := ⟨hs.er.up ge2, hs.size, hs.dl.up ge2, wr2, fr2, hs.rc.up ge2, RdOK.up ge2 hs.rd, hs.fn⟩
              cases cr with
              | pan v =>
                simp only [Option.some.injEq, Prod.mk.injEq] at h2
                obtain ⟨rfl, rfl⟩ := h2
                obtain ⟨v', e1, e2⟩ := hand
                exact ⟨g2, tm, df, cs, w2, ⟨ge2, hs0, wb2, CSR.refl _ _, rfl⟩, ⟨v', _, e1, start.trans e2⟩, by simp, by simp⟩
              | ret v =>
                obtain ⟨v', e1, e2⟩ := hand
                have hfin : (b.at tm df (.inRegion ops ((i :: is) ++ rest) :: k)).finish v' = b.at (putT tm oper.dst v') df (.inRegion ops (is ++ rest) :: k) := finish_at ho v'
                rw [hfin] at e2
                have hs1 := hs0.put hdst (v := v) (v' := v') e1
                obtain ⟨g', tm', df', cs', w', t, l, e3, e4⟩ := ih.ops hr h2 rest k hs1
                refine ⟨g', tm', df', cs', w', ⟨ge2.trans t.ge, t.sr, wb2.trans t.wb, ?_, ?_⟩, l.steps (start.trans e2), e3, e4⟩
                · have := t.cr
                  rw [put_rv] at this
                  exact this
                · rw [t.rd, put_rd]
            case pa y =>
              obtain ⟨xo, hc1, hc2⟩ := comp_pa hpo
              have hv := opd_ok hs.er hc2
              simp only at he
              split at he
              · rename_i t u hy
                simp only [Option.some.injEq, Prod.mk.injEq] at he
                obtain ⟨rfl, rfl⟩ := he
                rw [hy] at hv
                have hv' := hv
                simp only [VR] at hv
                obtain ⟨u', e1, e2⟩ := hv
                have hrun : (Go.execOp (evT tm) oper).run P w = .halt (.panic (evT tm xo)) w := by
                  simp [Go.execOp, hc1, Go.Instr.panic, e1]
                exact ⟨g, tm, df, cs, w, To.refl hs, ⟨evT tm xo, _, hv', .one (s_op_panic ho hw (.inr (by intro c'; rw [hc1]; simp)) hrun)⟩, by simp, by simp⟩
              · cases he
            case df f args =>
              obtain ⟨c, fo, hc1, hc2, hc3, hc4⟩ := comp_df hpo
              have hv := opd_ok hs.er hc3
              obtain ⟨ha1, ha2⟩ := opds_ok hs.er hc4
              simp only at he
              split at he
              · rename_i fn a cc hf
                split at he
                · cases he
                · rename_i hrd
                  have hro : b.ro = none := by
                    have := hs.rd
                    cases hsd : s.rd with
                    | none => rw [hsd] at this; exact this
                    | some l => rw [hsd] at hrd; simp at hrd
                  rw [hf] at hv
                  simp only [VR] at hv
                  obtain ⟨f', a', c', e1, e2, e3, e4, e5, e6⟩ := hv
                  simp only [FR] at e2
                  subst e2
                  have hrun : (Go.execOp (evT tm) oper).run P w = .ok (.defer { target := .fn (.func fn) c', args := a' ++ c.args.map (evT tm) }) w := by
                    simp [Go.execOp, hc1, Go.resolve, hc2, e1, Go.Deferred.ofValue]
                  have step1 := Steps.one (s_op_defer (P := P) (b := b) (tm := tm) (df := df) (k := k) (cs := cs) (rest := is ++ rest) ho hw hro hrun)
                  have hs0 : SR P N g b { s with ds := .call (.fn (.func fn) a cc) (args.map (Opd.ev s.e)) :: s.ds } tm ({ target := .fn (.func fn) c', args := a' ++ c.args.map (evT tm) } :: df) cs w :=
                    ⟨hs.er, hs.size, ⟨⟨fn, a, cc, c', _, rfl, rfl, e4, e6, by simp [e3, ha2], by simpa using e5.append (by simpa using e3) ha1⟩, hs.dl⟩, hs.wr, hs.fresh, hs.rc, hs.rd, hs.fn⟩
                  have hs1 := hs0.put hdst (v := .tu []) (v' := undef) (by simp only [VR]; exact ⟨#[], rfl, rfl, trivial⟩)
                  obtain ⟨g', tm', df', cs', w', t, l, e7, e8⟩ := ih.ops hr he rest k hs1
                  refine ⟨g', tm', df', cs', w', ⟨t.ge, t.sr, t.wb, ?_, ?_⟩, l.steps step1, e7, e8⟩
                  · have := t.cr
                    rw [put_rv] at this
                    exact this
                  · rw [t.rd, put_rd]
              · cases he
            case rc =>
              obtain ⟨c, hc1, hc2⟩ := comp_rc hpo
              simp only at he
              split at he
              · rename_i v hv
                obtain ⟨hkd, hro, cf, crest, rfl, hmode⟩ := hs.rc v hv
                have hrun : (Go.execOp (evT tm) oper).run P w = .ok .recover w := by
                  simp [Go.execOp, hc1, Go.resolve, hc2, Go.invoke, Go.builtin]
                have hnd : ∀ c, oper.op ≠ .defer c := by intro c'; rw [hc1]; simp
                have hst := s_recover (P := P) (b := b) (tm := tm) (df := df) (k := k) (cs := cf :: crest) (rest := is ++ rest) ho hw hnd hro hrun
                obtain ⟨v', e1, e2⟩ : ∃ v', VR g.ro v g.rho v' ∧ step P (lone (b.at tm df (.inRegion ops ((i :: is) ++ rest) :: k)) (cf :: crest) w) = .next (lone (b.at (putT tm oper.dst v') df (.inRegion ops (is ++ rest) :: k)) (recovered (cf :: crest)) w) := by
                  have hk : (b.at tm df (.inRegion ops (i :: (is ++ rest)) :: k)).kind = .deferred := hkd
                  rcases hmode with ⟨v', hm, hv'⟩ | ⟨rfl, hm⟩
                  · refine ⟨v', hv', ?_⟩
                    have : Go.tryRecover (b.at tm df (.inRegion ops (i :: (is ++ rest)) :: k)) (cf :: crest) = some (v', recovered (cf :: crest)) := by
                      simp [Go.tryRecover, hk, hm, recovered]
                    rw [List.cons_append, hst, this]
                  · refine ⟨.nilIface, by simp [VR], ?_⟩
                    have h1 : Go.tryRecover (b.at tm df (.inRegion ops (i :: (is ++ rest)) :: k)) (cf :: crest) = none := by
                      simp [Go.tryRecover, hk, hm]
                    have h2 : recovered (cf :: crest) = cf :: crest := by simp [recovered, hm]
                    rw [List.cons_append, hst, h1, h2]
                have hs0 : SR P N g b { s with rv := none } tm df (recovered (cf :: crest)) w := ⟨hs.er, hs.size, hs.dl, hs.wr, hs.fresh, fun v hv => (by cases hv), hs.rd, hs.fn⟩
                have hs1 := hs0.put hdst (v := v) (v' := v') e1
                obtain ⟨g', tm', df', cs', w', t, l, e7, e8⟩ := ih.ops hr he rest k hs1
                refine ⟨g', tm', df', cs', w', ⟨t.ge, t.sr, t.wb, ?_, ?_⟩, l.steps (.one e2), e7, e8⟩
                · have := t.cr
                  rw [put_rv] at this
                  exact (CSR.trans (.inr ⟨v, hv, rfl, rfl⟩) this)
                · rw [t.rd, put_rd]
              · cases he
            all_goals
              simp only [Option.bind_eq_some_iff] at he
              obtain ⟨⟨v, ws⟩, h1, h2⟩ := he
              exact plain h1 (nodefer (by simp)) h2
      · cases hco

end
end Pi
