/- Open order, on the machine. -/
import Derived.Test.YtglibfclhecbkaaYPiO
set_option linter.unusedSimpArgs false
set_option linter.unusedVariables false
namespace Pi
open Go (IntKind TypeId FuncId Fn BinOp UnOp LoopState Value Addr World Program undef Operand Sem Result Frame Item step lone Steps step_lone_go stepG)

section
variable {P : Program} {C : Ctx} {n : Nat}

theorem markRo_nil (m : Sto) : markRo m [] = m := rfl

theorem callQ_sound (lk : Lnk P C) (ih : Sound P C n) {f : V} {args : List V} {m : Sto} {x : Nat} {q : QR} (he : callQ C (n + 1) f args m x = some q) {g : G} {w : World} {f' : Value} {args' : Array Value}
    (hf : VR g.ro f g.rho f') (ha : PR g.ro args g.rho args'.toList) (hl : args.length = args'.size) (hw : WR P g m w) (hx : ∀ l, x ≤ l → l < q.x → g.rho l = none) :
    ∃ nx, (callM f' args').run P w = .ok nx w ∧ isFrame nx ∧ ∀ fr cs, ∃ g' w', GE g g' ∧ WR P g' (m.app q.ws) w' ∧ (∀ l, ¬(x ≤ l ∧ l < q.x) → g'.rho l = g.rho l) ∧ WB w w' ∧
        Handed P g' (lone (frameOf P nx) (fr :: cs) w) fr cs w' (.ret q.v) := by
  unfold callQ at he
  simp only at he
  split at he
  · rename_i gg first cap
    simp only [VR] at hf
    obtain ⟨f2, a', c', rfl, hfr2, e1, e2, e3, e4⟩ := hf
    replace hfr2 : f2 = .func gg := hfr2
    subst hfr2
    have hpr : PR g.ro (first ++ args ++ cap) g.rho (a' ++ args' ++ c').toList := by
      have h1 := e3.append (by simpa using e1) ha
      have h2 := h1.append (by simp; omega) e4
      simpa using h2
    have hlen : (first ++ args ++ cap).length = (a' ++ args' ++ c').size := by simp; omega
    split at he
    · rename_i h hprim
      simp only [Option.map_eq_some_iff] at he
      obtain ⟨⟨v, ws⟩, h1, rfl⟩ := he
      obtain ⟨⟨fn, p1, p2, p3⟩, _, hp⟩ := lk.prim _ _ hprim
      have hxx := hx x (Nat.le_refl _) (by simp)
      have hrun := hp h1 hpr hlen hw hxx (hw.notThere hxx)
      refine ⟨.enter gg (a' ++ args' ++ c'), callM_func p1 p2 p3 _ _ _ _, trivial, fun fr cs => ?_⟩
      obtain ⟨v', w', h', q1, q2, q3, q4, q5, q6⟩ := hrun fr cs
      refine ⟨{ g with rho := h' }, w', GE.ofRho q1, q4, fun l hl => ?_, q5, v', q3, q6⟩
      show h' l = g.rho l
      exact q2 l (by simp only at hl; omega)
    · split at he
      · cases he
      · simp only [Option.bind_eq_some_iff] at he
        obtain ⟨a, hz, ⟨cr1, m1, x1, rv1⟩, h1, h2⟩ := he
        obtain ⟨fn, p1, p2, p3⟩ := enter_known lk h1
        cases cr1 with
        | pan v => cases h2
        | ret v =>
          simp only [Option.bind_eq_some_iff] at h2
          obtain ⟨r, h3, h4⟩ := h2
          split at h4
          · rename_i hc
            simp only [Option.some.injEq] at h4
            subst h4
            refine ⟨.enter gg (a' ++ args' ++ c'), callM_func p1 p2 p3 _ _ _ _, trivial, fun fr cs => ?_⟩
            obtain ⟨w1, k1, k2, k3, g', k4, k5, k6, k7⟩ := closed_call ih hz h1 hpr hlen hw (.inl rfl) h3 fr cs
            by_cases hsc : r.1.scal = true
            · exact ⟨g, w1, GE.refl _, by rw [app_nil]; exact k2, fun _ _ => rfl, k1, k3 hsc⟩
            · have hn : a.2 = [] := hc.resolve_left hsc
              rw [hn] at k6
              exact ⟨g', w1, k5, by rw [app_nil]; exact k6, fun l _ => by rw [k4], k1, k7⟩
          · cases h4
  · cases he

theorem stepA_sound (lk : Lnk P C) (ih : ∀ k, k < n → Sound P C k) {p : POper} {e : Env} {m : Sto} {x : Nat} {q : V × Ws × List Nat × Nat} (h : stepA C n p e m x = some q) {N : Nat} {ops : Array Go.Oper} {i : Nat} {o : Go.Oper}
    (ho : ops[i]? = some o) (hco : compOper P N ops o = some p) {g : G} {tm : Array Value} {w : World} (he : ER g e tm) (hw : WR P g m w) (hx : ∀ l, x ≤ l → l < q.2.2.2 → g.rho l = none)
    (b : B) (df : List Go.Deferred) (cs : List Frame) (rest : List Nat) (k : List Item) :
    p.d = o.dst ∧ p.d.all (· < N) = true ∧ ∃ g' v' w', GE g g' ∧ (∀ l, ¬(x ≤ l ∧ l < q.2.2.2) → g'.rho l = g.rho l) ∧ WR P g' (m.app q.2.1) w' ∧ WB w w' ∧ VR g'.ro q.1 g'.rho v' ∧
      Steps P (lone (b.at tm df (.inRegion ops (i :: rest) :: k)) cs w) (lone (b.at (putT tm o.dst v') df (.inRegion ops rest :: k)) cs w') := by
  unfold compOper at hco
  split at hco
  · rename_i hdst
    simp only [Option.map_eq_some_iff] at hco
    obtain ⟨gd, hgd, rfl⟩ := hco
    refine ⟨rfl, hdst, ?_⟩
    unfold stepA at h
    simp only at h
    cases hwt : wanted gd e with
    | none => rw [hwt] at h; cases h
    | some c =>
      rw [hwt] at h
      have hwd := wanted_ok he hgd hwt
      cases c with
      | false =>
        simp only [Option.some.injEq] at h
        subst h
        exact ⟨g, undef, w, GE.refl _, fun _ _ => rfl, by rw [app_nil]; exact hw, WB.refl _, by simp only [VR]; exact ⟨#[], rfl, rfl, trivial⟩, .one (s_op_skip ho hwd)⟩
      | true =>
        simp only at h
        cases hpo : compOp P o.op with
        | none =>
          rw [hpo] at h
          simp [opD] at h
        | some po =>
          rw [hpo] at h
          simp only [Option.getD_some] at h
          have plain : ∀ {v : V} {ws : Ws}, opD po e m x = some (v, ws) → (∀ c, o.op ≠ .defer c) → g.rho x = none →
              ∃ g' v' w', GE g g' ∧ (∀ l, l ≠ x → g'.rho l = g.rho l) ∧ WR P g' (m.app ws) w' ∧ WB w w' ∧ VR g'.ro v g'.rho v' ∧
                Steps P (lone (b.at tm df (.inRegion ops (i :: rest) :: k)) cs w) (lone (b.at (putT tm o.dst v') df (.inRegion ops rest :: k)) cs w') := by
            intro v ws hop hnd hfx
            obtain ⟨v', w1, h', h1, h2, h3, h4, h5, h6⟩ := opD_sound hw hfx he hpo hop rfl
            exact ⟨{ g with rho := h' }, v', w1, GE.ofRho h2, h3, h5, h6, h4, .one (s_op ho hwd (.inr hnd) h1)⟩
          have nodefer : (∀ f l, po ≠ .df f l) → ∀ c, o.op ≠ .defer c := by
            intro hnd c hc
            rw [hc] at hpo
            simp only [compOp] at hpo
            split at hpo
            · simp only [Option.bind_eq_some_iff, Option.map_eq_some_iff] at hpo
              obtain ⟨_, _, _, _, rfl⟩ := hpo
              exact hnd _ _ rfl
            · cases hpo
          cases po
          case ca f args =>
            obtain ⟨c, fo, hc1, hc2, hc3, hc4⟩ := comp_ca hpo
            simp only [Option.map_eq_some_iff] at h
            obtain ⟨y, h1, rfl⟩ := h
            cases n with
            | zero => simp [callQ] at h1
            | succ n =>
              obtain ⟨ha1, ha2⟩ := opds_ok he hc4
              obtain ⟨nx, q1, q2, q3⟩ := callQ_sound lk (ih n (by omega)) h1 (opd_ok he hc3) (args' := c.args.map (evT tm)) (by simpa using ha1) (by simp [ha2]) hw hx
              obtain ⟨g2, w2, ge2, wr2, old2, wb2, hand⟩ := q3 (b.at tm df (.inRegion ops (i :: rest) :: k)) cs
              have hnd : ∀ c, o.op ≠ .defer c := by intro c'; rw [hc1]; simp
              have start : Steps P (lone (b.at tm df (.inRegion ops (i :: rest) :: k)) cs w) (lone (frameOf P nx) (b.at tm df (.inRegion ops (i :: rest) :: k) :: cs) w) := by
                rw [← run_call hc1 hc2] at q1
                cases nx <;> simp only [isFrame] at q2
                · exact .one (s_op_enter ho hwd (.inr hnd) q1)
                · exact .one (s_op_round ho hwd (.inr hnd) q1)
              obtain ⟨v', e1, e2⟩ := hand
              have hfin : (b.at tm df (.inRegion ops (i :: rest) :: k)).finish v' = b.at (putT tm o.dst v') df (.inRegion ops rest :: k) := finish_at ho v'
              rw [hfin] at e2
              exact ⟨g2, v', w2, ge2, old2, wr2, wb2, e1, start.trans e2⟩
          case pa y => cases h
          case df f l => cases h
          case rc => cases h
          all_goals
            simp only [Option.map_eq_some_iff] at h
            obtain ⟨⟨v, ws⟩, h1, rfl⟩ := h
            obtain ⟨g2, v', w2, z1, z2, z3, z4, z5, z6⟩ := plain h1 (nodefer (by intro _ _ hh; cases hh)) (hx x (Nat.le_refl _) (by simp))
            exact ⟨g2, v', w2, z1, fun l hl => z2 l (fun e => hl (by subst e; simp)), z3, z4, z5, z6⟩
  · cases hco

/-- In any order: what is left to be done, and what the machine then comes to. -/
theorem any_go (lk : Lnk P C) (ih : ∀ k, k < n → Sound P C k) {N : Nat} {ops : Array Go.Oper} {b : B} {df : List Go.Deferred} {cs : List Frame} {rest : List Nat} {k : List Item} {e' : Env} {m' : Sto} :
    ∀ {sch : List Nat} {R : List Rec} {e : Env} {m : Sto}, sch.Perm (R.map Rec.k) → sch.Nodup → RunL C R e m e' m' → (∀ r ∈ R, r.n ≤ n ∧ ∃ o, ops[r.k]? = some o ∧ compOper P N ops o = some r.p) →
      R.Pairwise (fun a b => ((Go.Region.before ops).getD b.k 0).testBit a.k = true ∨ Apart a b) → sch.Pairwise (fun i j => ((Go.Region.before ops).getD i 0).testBit j = false) →
      R.Pairwise (fun a b => a.q.2.2.2 ≤ b.x) →
      ∀ {g : G} {tm : Array Value} {w : World}, ER g e tm → N ≤ tm.size → WR P g m w → (∀ r ∈ R, ∀ l, r.x ≤ l → l < r.q.2.2.2 → g.rho l = none) →
      ∃ g' tm' w', GE g g' ∧ (∀ l, (∀ r ∈ R, ¬(r.x ≤ l ∧ l < r.q.2.2.2)) → g'.rho l = g.rho l) ∧ ER g' e' tm' ∧ N ≤ tm'.size ∧ WR P g' m' w' ∧ WB w w' ∧
        Steps P (lone (b.at tm df (.inRegion ops (sch ++ rest) :: k)) cs w) (lone (b.at tm' df (.inRegion ops rest :: k)) cs w') := by
  intro sch
  induction sch with
  | nil =>
    intro R e m hp hn hr hk hap ho hx g tm w her hs hw hf
    have : R = [] := by
      have := hp.length_eq
      simp at this
      exact List.eq_nil_of_length_eq_zero this.symm
    subst this
    obtain ⟨rfl, rfl⟩ := hr
    exact ⟨g, tm, w, GE.refl _, fun _ _ => rfl, her, hs, hw, WB.refl _, .refl _ _⟩
  | cons i sch IH =>
    intro R e m hp hn hr hk hap ho hx g tm w her hs hw hf
    have hin : i ∈ R.map Rec.k := hp.subset (List.mem_cons_self)
    obtain ⟨r, hrR, hri⟩ := List.mem_map.1 hin
    obtain ⟨A, Bs, hR⟩ := List.append_of_mem hrR
    subst hR
    subst hri
    -- what is left
    have hp2 : sch.Perm ((A ++ Bs).map Rec.k) := by
      have h1 : ((A ++ r :: Bs).map Rec.k).Perm (r.k :: (A ++ Bs).map Rec.k) := by
        simp only [List.map_append, List.map_cons]
        exact List.perm_middle
      exact (List.perm_cons _).1 (hp.trans h1)
    have hn2 := (List.nodup_cons.1 hn)
    have ho2 := List.pairwise_cons.1 ho
    have hapr : ∀ a ∈ A, Apart a r := by
      intro a ha
      have h1 := (List.pairwise_append.1 hap).2.2 a ha r (List.mem_cons_self)
      rcases h1 with h1 | h1
      · have h2 : a.k ∈ sch := hp2.symm.subset (List.mem_map.2 ⟨a, List.mem_append.2 (.inl ha), rfl⟩)
        rw [ho2.1 _ h2] at h1
        cases h1
      · exact h1
    obtain ⟨h1, h2⟩ := pull lk hr hapr
    obtain ⟨hnr, o, ho1, hco⟩ := hk r (List.mem_append.2 (.inr (List.mem_cons_self)))
    obtain ⟨hd, hdN, g1, v1, w1, ge1, old1, wr1, wb1, vr1, st1⟩ := stepA_sound lk (fun k hk => ih k (by omega)) h1 ho1 hco her hw (hf r (List.mem_append.2 (.inr (List.mem_cons_self)))) b df cs (sch ++ rest) k
    have her1 : ER g1 (updE e r.p.d r.q.1) (putT tm o.dst v1) := by
      rw [← hd]
      cases hdd : r.p.d with
      | none => exact her.up ge1
      | some t =>
        rw [hdd] at hdN
        exact (her.up ge1).put hs (by simpa using hdN) vr1
    have hs1 : N ≤ (putT tm o.dst v1).size := by
      cases o.dst <;> simp [putT] <;> exact hs
    -- the others' numbers
    have mem2 : ∀ a, a ∈ A ++ Bs → a ∈ A ++ r :: Bs := by
      intro a ha
      rcases List.mem_append.1 ha with h | h
      · exact List.mem_append.2 (.inl h)
      · exact List.mem_append.2 (.inr (List.mem_cons_of_mem _ h))
    have sub : (A ++ Bs).Sublist (A ++ r :: Bs) := List.Sublist.append (List.Sublist.refl _) (List.sublist_cons_self _ _)
    have hf1 : ∀ a ∈ A ++ Bs, ∀ l, a.x ≤ l → l < a.q.2.2.2 → g1.rho l = none := by
      intro a ha l hl1 hl2
      rw [old1 l]
      · exact hf a (mem2 a ha) l hl1 hl2
      · intro hh
        rcases List.mem_append.1 ha with h | h
        · have := (List.pairwise_append.1 hx).2.2 a h r (List.mem_cons_self)
          omega
        · have := (List.pairwise_cons.1 (List.pairwise_append.1 hx).2.1).1 a h
          omega
    obtain ⟨g2, tm2, w2, ge2, old2, er2, s2, wr2, wb2, st2⟩ := IH hp2 hn2.2 h2 (fun a ha => hk a (mem2 a ha)) (hap.sublist sub) ho2.2 (hx.sublist sub) her1 hs1 wr1 hf1
    refine ⟨g2, tm2, w2, ge1.trans ge2, fun l hl => ?_, er2, s2, wr2, wb1.trans wb2, ?_⟩
    · rw [old2 l (fun a ha => hl a (mem2 a ha)), old1 l (hl r (List.mem_append.2 (.inr (List.mem_cons_self))))]
    · exact st1.trans st2

end
end Pi
