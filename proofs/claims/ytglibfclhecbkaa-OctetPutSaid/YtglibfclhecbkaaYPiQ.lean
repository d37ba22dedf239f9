/- A piece of open order. -/
import Derived.Test.YtglibfclhecbkaaYPiP
set_option linter.unusedSimpArgs false
set_option linter.unusedVariables false
namespace Pi
open Go (IntKind TypeId FuncId Fn BinOp UnOp LoopState Value Addr World Program undef Operand Sem Result Frame Item step lone Steps step_lone_go stepG)

section
variable {P : Program} {C : Ctx} {n : Nat}

theorem opsR_recs {N : Nat} {ops : Array Go.Oper} : ∀ {R : List Rec}, OpsR P N ops (R.map Rec.k) (R.map Rec.p) → ∀ r ∈ R, ∃ o, ops[r.k]? = some o ∧ compOper P N ops o = some r.p
  | [], _, r, hr => by cases hr
  | a :: R, h, r, hr => by
    rcases List.mem_cons.1 hr with rfl | hr
    · exact h.1
    · exact opsR_recs h.2 r hr

theorem apart_of {ps : List POper} {bef : Array Nat} {lo : Nat} {prs : List (Nat × Nat)} (hp : pairsOf ps bef lo = some prs) {R : List Rec} (r1 : R.map Rec.p = ps) (r2 : R.map Rec.k = List.range' lo ps.length)
    (ha : apartAll (R.map fun r => r.q.2.2.1) prs = true) : R.Pairwise (fun a b => (bef.getD b.k 0).testBit a.k = true ∨ Apart a b) := by
  have hlen : R.length = ps.length := by rw [← r1]; simp
  refine List.pairwise_iff_getElem.2 fun i j hi hj hij => ?_
  have hk : ∀ (t : Nat) (ht : t < R.length), R[t].k = lo + t := by
    intro t ht
    have h1 : (R.map Rec.k)[t]? = some R[t].k := by simp [ht]
    rw [r2] at h1
    have h2 : (List.range' lo ps.length)[t]? = some (lo + t) := by
      rw [List.getElem?_range' (by omega)]
      simp
    rw [h2] at h1
    exact (Option.some.inj h1).symm
  rw [hk i hi, hk j hj]
  by_cases hb : (bef.getD (lo + j) 0).testBit (lo + i) = true
  · exact .inl hb
  · right
    unfold pairsOf at hp
    simp only at hp
    split at hp
    · rename_i hall
      simp only [Option.some.injEq] at hp
      have hmem : (i, j) ∈ (List.range ps.length).flatMap fun j => ((List.range j).filter fun i => !(bef.getD (lo + j) 0).testBit (lo + i)).map fun i => (i, j) := by
        refine List.mem_flatMap.2 ⟨j, List.mem_range.2 (by omega), List.mem_map.2 ⟨i, List.mem_filter.2 ⟨List.mem_range.2 hij, ?_⟩, rfl⟩⟩
        simpa using hb
      have hpi : ps[i]? = some R[i].p := by rw [← r1]; simp [hi]
      have hpj : ps[j]? = some R[j].p := by rw [← r1]; simp [hj]
      refine ⟨?_, fun hc => ?_⟩
      · have := List.all_eq_true.1 hall _ hmem
        simpa [meetAt, hpi, hpj] using this
      · have hin : (i, j) ∈ prs := by
          rw [← hp]
          refine List.mem_filter.2 ⟨hmem, ?_⟩
          simp only [memAt, hpi, hpj]
          simpa using hc
        have h1 := List.all_eq_true.1 ha _ hin
        simp only at h1
        intro l hl hl2
        have h2 := List.all_eq_true.1 h1 l (by simp [List.getD, hi]; exact hl)
        have h3 : (R.map fun r => r.q.2.2.1).getD j [] = R[j].q.2.2.1 := by simp [List.getD, hj]
        rw [h3] at h2
        simp at h2
        exact h2 hl2
    · cases hp

theorem any_sound (lk : Lnk P C) (ih : ∀ k, k < n → Sound P C k) : AnyS P C n := by
  intro N ops lo ps prs s s' ts sch hp ho hr ha hsch hord b tm df cs w g rest k hs
  obtain ⟨R, r1, r2, r3, r4, r5, r6, r7, r8, r9, r10⟩ := recs lk lo hr
  simp only [List.reverse_nil, List.nil_append] at r7
  subst r7
  have hap := apart_of hp r1 r2 ha
  rw [← r2] at hsch
  have hnd : sch.Nodup := by
    rw [hsch.nodup_iff, r2]
    exact List.nodup_range'
  have hrec : ∀ r ∈ R, r.n ≤ n ∧ ∃ o, ops[r.k]? = some o ∧ compOper P N ops o = some r.p := by
    intro r hr'
    refine ⟨Nat.le_of_lt (r9 r hr').2.2, ?_⟩
    refine opsR_recs ?_ r hr'
    rw [r1, r2]
    exact ho
  obtain ⟨g', tm', w', q1, q2, q3, q4, q5, q6, q7⟩ := any_go lk ih (b := b) (df := df) (cs := cs) (rest := rest) (k := k) hsch hnd r3 hrec hap hord r10 hs.er hs.size hs.wr
    (fun r hr' l hl1 _ => hs.fresh l (by have := (r9 r hr').1; omega))
  refine ⟨g', tm', df, cs, w', ⟨q1, ⟨q3, q4, ?_, q5, fun l hl => ?_, ?_, ?_, hs.fn⟩, q6, ?_, r6⟩, q7⟩
  · rw [r4]; exact hs.dl.up q1
  · rw [q2 l (fun r hr' hh => by have := (r9 r hr').2.1; omega)]
    exact hs.fresh l (by omega)
  · rw [r5]; exact hs.rc.up q1
  · rw [r6]; exact hs.rd.up q1
  · rw [r5]; exact CSR.refl _ _

/-! ### the order that is drawn -/

theorem before_size (ops : Array Go.Oper) : (Go.Region.before ops).size = ops.size := by
  unfold Go.Region.before
  rw [← Array.foldl_toList]
  have : ∀ (l : List Go.Oper) (acc : Array Nat), (l.foldl (fun acc o => acc.push (o.after.foldl (fun s e => if Go.Region.binds .any e then s ||| 2 ^ e.on ||| acc.getD e.on 0 else s) 0)) acc).size = acc.size + l.length := by
    intro l
    induction l with
    | nil => intro acc; simp
    | cons o l ih => intro acc; simp only [List.foldl_cons]; rw [ih]; simp; omega
  rw [this]
  simp

end
end Pi
