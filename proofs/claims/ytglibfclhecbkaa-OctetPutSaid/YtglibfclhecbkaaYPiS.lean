/- The run of code: regions. -/
import Derived.Test.YtglibfclhecbkaaYPiR
set_option linter.unusedSimpArgs false
set_option linter.unusedVariables false
namespace Pi
open Go (IntKind TypeId FuncId Fn BinOp UnOp LoopState Value Addr World Program undef Operand Sem Result Frame Item step lone Steps step_lone_go stepG)

section
variable {P : Program} {C : Ctx} {n : Nat}

theorem compOpers_ok {N : Nat} {ops : Array Go.Oper} : ∀ {l : List Go.Oper} {lo : Nat} {ps : List POper}, compOpers P N ops l = some ps → (∀ (i : Nat) o, l[i]? = some o → ops[lo + i]? = some o) → OpsR P N ops (List.range' lo l.length) ps ∧ ps.length = l.length
  | [], lo, ps, h, _ => by
    simp only [compOpers, Option.some.injEq] at h
    subst h
    exact ⟨trivial, rfl⟩
  | o :: l, lo, ps, h, ha => by
    simp only [compOpers, Option.bind_eq_some_iff, Option.map_eq_some_iff] at h
    obtain ⟨p, h1, ps', h2, rfl⟩ := h
    obtain ⟨a1, a2⟩ := compOpers_ok (lo := lo + 1) h2 (fun i o' hi => by have := ha (i + 1) o' (by simpa using hi); rw [← this]; congr 1; omega)
    refine ⟨?_, by simp [a2]⟩
    simp only [List.length_cons, List.range'_succ]
    exact ⟨⟨o, by simpa using ha 0 o (by simp), h1⟩, a1⟩

theorem part_at {ops : Array Go.Oper} {lo k : Nat} : ∀ (i : Nat) o, ((ops.toList.drop lo).take k)[i]? = some o → ops[lo + i]? = some o := by
  intro i o h
  rw [List.getElem?_take] at h
  split at h
  · rw [List.getElem?_drop] at h
    simpa using h
  · cases h

theorem joint_split {ops : Array Go.Oper} {j lo : Nat} (hj : isJoint (Go.Region.before ops) ops.size j = true) (h1 : lo ≤ j) (h2 : j < ops.size) {sch : List Nat} (hp : sch.Perm (List.range' lo (ops.size - lo)))
    (ho : sch.Pairwise (fun i j => ((Go.Region.before ops).getD i 0).testBit j = false)) :
    ∃ A Bs, sch = A ++ j :: Bs ∧ A.Perm (List.range' lo (j - lo)) ∧ Bs.Perm (List.range' (j + 1) (ops.size - (j + 1))) ∧ A.Pairwise (fun i j => ((Go.Region.before ops).getD i 0).testBit j = false) ∧ Bs.Pairwise (fun i j => ((Go.Region.before ops).getD i 0).testBit j = false) := by
  have mem : ∀ i, i ∈ sch ↔ (lo ≤ i ∧ i < ops.size) := by
    intro i
    rw [hp.mem_iff, List.mem_range'_1]
    omega
  have hn : sch.Nodup := by rw [hp.nodup_iff]; exact List.nodup_range'
  obtain ⟨A, Bs, rfl⟩ := List.append_of_mem ((mem j).2 ⟨h1, h2⟩)
  unfold isJoint at hj
  rw [Bool.and_eq_true] at hj
  obtain ⟨j1, j2⟩ := hj
  have ho1 := List.pairwise_append.1 ho
  have ho2 := List.pairwise_cons.1 ho1.2.1
  have hn1 := List.nodup_append.1 hn
  have hn2 := List.nodup_cons.1 hn1.2.1
  have hA : ∀ a ∈ A, a < j := by
    intro a ha
    have h3 := ho1.2.2 a ha j List.mem_cons_self
    have h4 := (mem a).1 (List.mem_append.2 (.inl ha))
    rcases Nat.lt_trichotomy a j with h5 | h5 | h5
    · exact h5
    · exact absurd h5 (hn1.2.2 a ha j List.mem_cons_self)
    · have h6 := List.all_eq_true.1 j2 a (by rw [List.mem_range'_1]; omega)
      rw [h3] at h6
      cases h6
  have hB : ∀ c ∈ Bs, j < c := by
    intro c hc
    have h3 := ho2.1 c hc
    rcases Nat.lt_trichotomy c j with h5 | h5 | h5
    · have h6 := List.all_eq_true.1 j1 c (List.mem_range.2 h5)
      rw [h3] at h6
      cases h6
    · subst h5; exact absurd hc hn2.1
    · exact h5
  refine ⟨A, Bs, rfl, ?_, ?_, ho1.1, ho2.2⟩
  · refine (List.perm_ext_iff_of_nodup hn1.1 List.nodup_range').2 fun i => ?_
    rw [List.mem_range'_1]
    constructor
    · intro h
      have h3 := hA i h
      have h4 := (mem i).1 (List.mem_append.2 (.inl h))
      omega
    · intro h
      have h4 := (mem i).2 ⟨h.1, by omega⟩
      rcases List.mem_append.1 h4 with h5 | h5
      · exact h5
      · rcases List.mem_cons.1 h5 with h6 | h6
        · omega
        · have := hB i h6; omega
  · refine (List.perm_ext_iff_of_nodup hn2.2 List.nodup_range').2 fun i => ?_
    rw [List.mem_range'_1]
    constructor
    · intro h
      have h3 := hB i h
      have h4 := (mem i).1 (List.mem_append.2 (.inr (List.mem_cons_of_mem _ h)))
      omega
    · intro h
      have h4 := (mem i).2 ⟨by omega, by omega⟩
      rcases List.mem_append.1 h4 with h5 | h5
      · have := hA i h5; omega
      · rcases List.mem_cons.1 h5 with h6 | h6
        · omega
        · exact h6

theorem range_end {lo n : Nat} (h : n ≤ lo) {sch : List Nat} (hp : sch.Perm (List.range' lo (n - lo))) : sch = [] := by
  have : n - lo = 0 := by omega
  rw [this] at hp
  exact List.perm_nil.1 hp

theorem runSegs_nil {s s' : S} {x : X} (h : runSegs C n [] s = some (x, s')) : x = .nor ∧ s' = s := by
  cases n with
  | zero => simp [runSegs] at h
  | succ n =>
    simp only [runSegs, Option.some.injEq, Prod.mk.injEq] at h
    exact ⟨h.1.symm, h.2.symm⟩

/-- Operations in order, and what comes after them. -/
theorem seq_go {n1 : Nat} (ih : Sound P C n1) {N : Nat} {ops : Array Go.Oper} {is rest : List Nat} {one : List POper} (hone : OpsR P N ops is one) {segs : List Seg} {s s' : S} {x : X} (he : runSegs C (n1 + 1) (.seq one :: segs) s = some (x, s'))
    {b : B} {tm : Array Value} {df : List Go.Deferred} {cs : List Frame} {w : World} {g : G} {k : List Item} (hs : SR P N g b s tm df cs w)
    (next : ∀ {s1 : S} {g1 : G} {tm1 : Array Value} {df1 : List Go.Deferred} {cs1 : List Frame} {w1 : World}, runSegs C n1 segs s1 = some (x, s') → SR P N g1 b s1 tm1 df1 cs1 w1 →
      ∃ g' tm' df' cs' w', To P N b g1 s1 cs1 w1 g' s' tm' df' cs' w' ∧ Lands P g' b k (lone (b.at tm1 df1 (.inRegion ops rest :: k)) cs1 w1) x tm' df' cs' w') :
    ∃ g' tm' df' cs' w', To P N b g s cs w g' s' tm' df' cs' w' ∧ Lands P g' b k (lone (b.at tm df (.inRegion ops (is ++ rest) :: k)) cs w) x tm' df' cs' w' := by
  simp only [runSegs, Option.bind_eq_some_iff] at he
  obtain ⟨⟨x1, s1⟩, h1, h2⟩ := he
  obtain ⟨g1, tm1, df1, cs1, w1, t1, l1, e1, e2⟩ := ih.ops hone h1 rest k hs
  cases x1 with
  | nor =>
    obtain ⟨g2, tm2, df2, cs2, w2, t2, l2⟩ := next h2 t1.sr
    exact ⟨g2, tm2, df2, cs2, w2, t1.trans t2, l2.steps l1⟩
  | exit id => exact absurd rfl (e1 id)
  | ret => exact absurd rfl e2
  | pan v =>
    simp only [Option.some.injEq, Prod.mk.injEq] at h2
    obtain ⟨rfl, rfl⟩ := h2
    exact ⟨g1, tm1, df1, cs1, w1, t1, l1.pass (by simp) (by simp)⟩

theorem end_go {N : Nat} {ops : Array Go.Oper} {s s' : S} {x : X} (he : runSegs C n [] s = some (x, s')) {b : B} {tm : Array Value} {df : List Go.Deferred} {cs : List Frame} {w : World} {g : G} {k : List Item} (hs : SR P N g b s tm df cs w) :
    ∃ g' tm' df' cs' w', To P N b g s cs w g' s' tm' df' cs' w' ∧ Lands P g' b k (lone (b.at tm df (.inRegion ops [] :: k)) cs w) x tm' df' cs' w' := by
  obtain ⟨rfl, rfl⟩ := runSegs_nil he
  exact ⟨g, tm, df, cs, w, To.refl hs, .one s_region_end⟩

/-- A piece of open order, and what comes after it. -/
theorem any_then {n1 : Nat} (ih : Sound P C n1) {N : Nat} {ops : Array Go.Oper} {lo : Nat} {ps : List POper} {prs : List (Nat × Nat)} {A rest : List Nat} (hp : pairsOf ps (Go.Region.before ops) lo = some prs) (ho : OpsR P N ops (List.range' lo ps.length) ps)
    (hA : A.Perm (List.range' lo ps.length)) (hA2 : A.Pairwise (fun i j => ((Go.Region.before ops).getD i 0).testBit j = false)) {segs : List Seg} {s s' : S} {x : X} (he : runSegs C (n1 + 1) (.any ps prs :: segs) s = some (x, s'))
    {b : B} {tm : Array Value} {df : List Go.Deferred} {cs : List Frame} {w : World} {g : G} {k : List Item} (hs : SR P N g b s tm df cs w)
    (next : ∀ {s1 : S} {g1 : G} {tm1 : Array Value} {df1 : List Go.Deferred} {cs1 : List Frame} {w1 : World}, runSegs C n1 segs s1 = some (x, s') → SR P N g1 b s1 tm1 df1 cs1 w1 →
      ∃ g' tm' df' cs' w', To P N b g1 s1 cs1 w1 g' s' tm' df' cs' w' ∧ Lands P g' b k (lone (b.at tm1 df1 (.inRegion ops rest :: k)) cs1 w1) x tm' df' cs' w') :
    ∃ g' tm' df' cs' w', To P N b g s cs w g' s' tm' df' cs' w' ∧ Lands P g' b k (lone (b.at tm df (.inRegion ops (A ++ rest) :: k)) cs w) x tm' df' cs' w' := by
  simp only [runSegs, Option.bind_eq_some_iff] at he
  obtain ⟨⟨s1, ts⟩, h1, h2⟩ := he
  split at h2
  · rename_i hap
    obtain ⟨g1, tm1, df1, cs1, w1, t1, l1⟩ := ih.any A hp ho h1 hap hA hA2 rest k hs
    obtain ⟨g2, tm2, df2, cs2, w2, t2, l2⟩ := next h2 t1.sr
    exact ⟨g2, tm2, df2, cs2, w2, t1.trans t2, l2.steps l1⟩
  · cases h2

theorem segs_go (ih : ∀ k, k ≤ n → Sound P C k) {N : Nat} {ops : Array Go.Oper} : ∀ (r j lo n1 : Nat) {segs : List Seg} {s s' : S} {x : X} {sch : List Nat}, n1 ≤ n + 1 → j + r = ops.size → lo ≤ j →
    segsOf P N ops (Go.Region.before ops) (List.range' j r) lo = some segs → runSegs C n1 segs s = some (x, s') → sch.Perm (List.range' lo (ops.size - lo)) → sch.Pairwise (fun i j => ((Go.Region.before ops).getD i 0).testBit j = false) →
    ∀ {b : B} {tm : Array Value} {df : List Go.Deferred} {cs : List Frame} {w : World} {g : G} (k : List Item), SR P N g b s tm df cs w →
      ∃ g' tm' df' cs' w', To P N b g s cs w g' s' tm' df' cs' w' ∧ Lands P g' b k (lone (b.at tm df (.inRegion ops sch :: k)) cs w) x tm' df' cs' w' := by
  intro r
  induction r with
  | zero =>
    intro j lo n1 segs s s' x sch hn hj hlo hsg he hp ho b tm df cs w g k hs
    simp only [List.range'_zero, segsOf] at hsg
    split at hsg
    · rename_i hl
      simp only [Option.some.injEq] at hsg
      subst hsg
      have : sch = [] := range_end (by omega) hp
      subst this
      exact end_go he hs
    · simp only [Option.bind_eq_some_iff, Option.map_eq_some_iff] at hsg
      obtain ⟨l, h1, ps, h2, rfl⟩ := hsg
      obtain ⟨a1, a2⟩ := compOpers_ok (lo := lo) h1 part_at
      have hlen : l.length = ops.size - lo := by rw [a2]; simp
      rw [← a2] at a1
      cases n1 with
      | zero => simp [runSegs] at he
      | succ n1 =>
        have := any_then (ih n1 (by omega)) (A := sch) (rest := []) h2 a1 (by rw [hlen]; exact hp) ho he (k := k) hs (fun h3 h4 => end_go h3 h4)
        simpa using this
  | succ r IH =>
    intro j lo n1 segs s s' x sch hn hj hlo hsg he hp ho b tm df cs w g k hs
    simp only [List.range'_succ, segsOf] at hsg
    split at hsg
    · rename_i hjt
      simp only [Option.bind_eq_some_iff] at hsg
      obtain ⟨one, h1, more, h2, h3⟩ := hsg
      obtain ⟨A, Bs, rfl, hA, hB, hA2, hB2⟩ := joint_split hjt hlo (by omega) hp ho
      obtain ⟨a1, a2⟩ := compOpers_ok (lo := j) h1 part_at
      have hone : OpsR P N ops [j] one := by
        have hl1 : ((ops.toList.drop j).take 1).length = 1 := by simp; omega
        rw [hl1] at a1
        exact a1
      have seqPart : ∀ {n2 : Nat}, n2 ≤ n + 1 → ∀ {s1 : S} {g1 : G} {tm1 : Array Value} {df1 : List Go.Deferred} {cs1 : List Frame} {w1 : World}, runSegs C n2 (.seq one :: more) s1 = some (x, s') → SR P N g1 b s1 tm1 df1 cs1 w1 →
          ∃ g' tm' df' cs' w', To P N b g1 s1 cs1 w1 g' s' tm' df' cs' w' ∧ Lands P g' b k (lone (b.at tm1 df1 (.inRegion ops (j :: Bs) :: k)) cs1 w1) x tm' df' cs' w' := by
        intro n2 hn2 s1 g1 tm1 df1 cs1 w1 hr1 hs1
        cases n2 with
        | zero => simp [runSegs] at hr1
        | succ n2 => exact seq_go (ih n2 (by omega)) (is := [j]) (rest := Bs) hone hr1 hs1 (fun h4 h5 => IH (j + 1) (j + 1) n2 (by omega) (by omega) (Nat.le_refl _) h2 h4 hB hB2 k h5)
      split at h3
      · rename_i hlj
        simp only [Option.some.injEq] at h3
        subst h3
        have : A = [] := range_end (n := j) (by omega) hA
        subst this
        exact seqPart hn he hs
      · simp only [Option.bind_eq_some_iff, Option.map_eq_some_iff] at h3
        obtain ⟨l, h4, ps, h5, rfl⟩ := h3
        obtain ⟨c1, c2⟩ := compOpers_ok (lo := lo) h4 part_at
        have hlen : l.length = j - lo := by rw [c2]; simp; omega
        rw [← c2] at c1
        cases n1 with
        | zero => simp [runSegs] at he
        | succ n1 => exact any_then (ih n1 (by omega)) (A := A) (rest := j :: Bs) h5 c1 (by rw [hlen]; exact hA) hA2 he hs (fun h6 h7 => seqPart (by omega) h6 h7)
    · exact IH (j + 1) lo n1 hn (by omega) (by omega) hsg he hp ho k hs

theorem segs_sound (lk : Lnk P C) (ih : ∀ k, k ≤ n → Sound P C k) : SegsS P C (n + 1) := by
  intro N id ops draw segs s s' x hc he b tm df cs w g k hs
  simp only [comp] at hc
  split at hc
  · rename_i hd
    subst hd
    split at hc
    · rename_i hE
      simp only [Option.map_eq_some_iff, PCode.reg.injEq] at hc
      obtain ⟨segs', h1, rfl⟩ := hc
      have h0 : List.range ops.size = List.range' 0 ops.size := by simp [List.range_eq_range']
      rw [h0] at h1
      obtain ⟨l1, l2⟩ := linear_ok hE (w.tape w.drawn (.order b.fn id))
      have hs2 : SR P N g b s tm df cs { w with drawn := w.drawn + 1 } := ⟨hs.er, hs.size, hs.dl, hs.wr.heap rfl, hs.fresh, hs.rc, hs.rd, hs.fn⟩
      obtain ⟨g', tm', df', cs', w', t, l⟩ := segs_go ih ops.size 0 0 (n + 1) (Nat.le_refl _) (by omega) (Nat.le_refl _) h1 he (by simpa using l1) l2 k hs2
      refine ⟨g', tm', df', cs', w', ⟨t.ge, t.sr, ?_, t.cr, t.rd⟩, l.steps (.one ?_)⟩
      · exact ⟨t.wb.os, t.wb.tape, t.wb.output, t.wb.size⟩
      · have := s_region_draw (P := P) (b := b) (tm := tm) (df := df) (k := k) (cs := cs) (w := w) (id := id) (ops := ops)
        rw [lk.mixed] at this
        simpa [Go.Region.schedule] using this
    · cases hc
  · rename_i hd
    have hd' : draw = false := by simpa using hd
    subst hd'
    simp only [Option.map_eq_some_iff, PCode.reg.injEq] at hc
    obtain ⟨l, h1, rfl⟩ := hc
    obtain ⟨a1, a2⟩ := compOpers_ok (lo := 0) h1 (fun i o h => by simpa using h)
    have hr : List.range ops.size = List.range' 0 ops.toList.length := by simp [List.range_eq_range']
    have start : Steps P (lone (b.at tm df (.code (.region id ops false) :: k)) cs w) (lone (b.at tm df (.inRegion ops (List.range ops.size) :: k)) cs w) := .one s_region
    rw [hr] at start
    obtain ⟨g', tm', df', cs', w', t, ld⟩ := seq_go (ih n (Nat.le_refl _)) (rest := []) a1 he (k := k) hs (fun h3 h4 => end_go h3 h4)
    refine ⟨g', tm', df', cs', w', t, ?_⟩
    rw [List.append_nil] at ld
    exact ld.steps start

end
end Pi
