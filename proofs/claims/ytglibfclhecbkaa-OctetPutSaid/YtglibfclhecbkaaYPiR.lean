/- The order that is drawn: each operation once, none ahead of what it waits for. -/
import Derived.Test.YtglibfclhecbkaaYPiQ
import Derived.Orders
set_option linter.unusedSimpArgs false
set_option linter.unusedVariables false
namespace Pi
open Go (IntKind TypeId FuncId Fn BinOp UnOp LoopState Value Addr World Program undef Operand Sem Result Frame Item step lone Steps step_lone_go stepG)

theorem edges_bit {A : Nat → Nat} {j : Nat} : ∀ {l : List Go.Edge} {s : Nat}, (l.foldl (fun s e => if Go.Region.binds .any e then s ||| 2 ^ e.on ||| A e.on else s) s).testBit j = true →
    s.testBit j = true ∨ ∃ e ∈ l, Go.Region.binds .any e = true ∧ (e.on = j ∨ (A e.on).testBit j = true)
  | [], s, h => .inl h
  | e :: l, s, h => by
    simp only [List.foldl_cons] at h
    rcases edges_bit h with h1 | ⟨e', h1, h2⟩
    · split at h1
      · rename_i hb
        simp only [Nat.testBit_or, Bool.or_eq_true, Nat.testBit_two_pow, decide_eq_true_eq] at h1
        rcases h1 with (h1 | h1) | h1
        · exact .inl h1
        · exact .inr ⟨e, List.mem_cons_self, hb, .inl h1⟩
        · exact .inr ⟨e, List.mem_cons_self, hb, .inr h1⟩
      · exact .inl h1
    · exact .inr ⟨e', List.mem_cons_of_mem _ h1, h2⟩

def bStep (acc : Array Nat) (o : Go.Oper) : Array Nat := acc.push (o.after.foldl (fun s e => if Go.Region.binds .any e then s ||| 2 ^ e.on ||| acc.getD e.on 0 else s) 0)

theorem getD_push {acc : Array Nat} {v k : Nat} (h : k < acc.size) : (acc.push v).getD k 0 = acc.getD k 0 := by
  simp [Array.getD, h, Nat.lt_succ_of_lt h, Array.getElem_push_lt h]

theorem bFold_old : ∀ {l : List Go.Oper} {acc : Array Nat} {k : Nat}, k < acc.size → (l.foldl bStep acc).getD k 0 = acc.getD k 0
  | [], _, _, _ => rfl
  | o :: l, acc, k, h => by
    simp only [List.foldl_cons]
    rw [bFold_old (by simp [bStep]; omega)]
    exact getD_push h

theorem bFold_bit : ∀ {l : List Go.Oper} {acc : Array Nat} {i j : Nat} {o : Go.Oper}, l[i]? = some o → ((l.foldl bStep acc).getD (acc.size + i) 0).testBit j = true →
    ∃ e ∈ o.after.toList, Go.Region.binds .any e = true ∧ (e.on = j ∨ ((l.foldl bStep acc).getD e.on 0).testBit j = true)
  | [], _, _, _, _, h, _ => by simp at h
  | p :: l, acc, i, j, o, h, hb => by
    cases i with
    | zero =>
      simp only [List.getElem?_cons_zero, Option.some.injEq] at h
      subst h
      simp only [List.foldl_cons, Nat.add_zero] at hb ⊢
      rw [bFold_old (by simp [bStep])] at hb
      have h1 : (bStep acc p).getD acc.size 0 = p.after.foldl (fun s e => if Go.Region.binds .any e then s ||| 2 ^ e.on ||| acc.getD e.on 0 else s) 0 := by
        simp [bStep, Array.getD]
      rw [h1, ← Array.foldl_toList] at hb
      rcases edges_bit (A := fun k => acc.getD k 0) hb with h2 | ⟨e, h2, h3, h4⟩
      · simp at h2
      · refine ⟨e, h2, h3, ?_⟩
        rcases h4 with h4 | h4
        · exact .inl h4
        · right
          have hlt : e.on < acc.size := by
            rcases Nat.lt_or_ge e.on acc.size with h5 | h5
            · exact h5
            · simp [Array.getD, Nat.not_lt.2 h5] at h4
          rw [bFold_old (by simp [bStep]; omega)]
          rw [show (bStep acc p).getD e.on 0 = acc.getD e.on 0 from getD_push hlt]
          exact h4
    | succ i =>
      simp only [List.getElem?_cons_succ] at h
      simp only [List.foldl_cons] at hb ⊢
      exact bFold_bit (acc := bStep acc p) h (by rw [show (bStep acc p).size + i = acc.size + (i + 1) by simp [bStep]; omega]; exact hb)

/-- What is before an operation is waited for, or before what is waited for. -/
theorem before_bit {ops : Array Go.Oper} {i j : Nat} {o : Go.Oper} (h : ops[i]? = some o) (hb : ((Go.Region.before ops).getD i 0).testBit j = true) :
    ∃ e ∈ o.after.toList, Go.Region.binds .any e = true ∧ (e.on = j ∨ ((Go.Region.before ops).getD e.on 0).testBit j = true) := by
  have e1 : Go.Region.before ops = ops.toList.foldl bStep #[] := by
    unfold Go.Region.before
    rw [← Array.foldl_toList]
    rfl
  rw [e1] at hb ⊢
  exact bFold_bit (acc := #[]) (by simpa using h) (by simpa using hb)

theorem before_none {ops : Array Go.Oper} {i j : Nat} (h : ops[i]? = none) : ((Go.Region.before ops).getD i 0).testBit j = false := by
  have : ¬ i < (Go.Region.before ops).size := by
    rw [before_size]
    simpa using h
  simp [Array.getD, this]

theorem go_ok {ops : Array Go.Oper} (hE : edgesOk ops = true) : ∀ (fuel t : Nat) (listed : Array Bool) (U : List Nat), listed.size = ops.size → U.length ≤ fuel → (∀ i, i < ops.size → listed.getD i true = false → i ∈ U) →
    (∀ k, listed.getD k false = true → ∀ j, ((Go.Region.before ops).getD k 0).testBit j = true → listed.getD j false = true) →
    (Go.Region.linearise.go .any ops fuel t listed []).Nodup ∧ (∀ i ∈ Go.Region.linearise.go .any ops fuel t listed [], i < ops.size ∧ listed.getD i true = false) ∧
      (∀ i, i < ops.size → listed.getD i true = false → i ∈ Go.Region.linearise.go .any ops fuel t listed []) ∧
      (Go.Region.linearise.go .any ops fuel t listed []).Pairwise (fun i j => ((Go.Region.before ops).getD i 0).testBit j = false) := by
  intro fuel
  induction fuel with
  | zero =>
    intro t listed U hs hU hm hc
    have : U = [] := List.eq_nil_of_length_eq_zero (by omega)
    subst this
    simp only [Go.Region.linearise.go, List.reverse_nil]
    exact ⟨.nil, (by intro i hi; cases hi), (fun i h1 h2 => absurd (hm i h1 h2) (by simp)), .nil⟩
  | succ fuel ih =>
    intro t listed U hs hU hm hc
    have same : ∀ i, i < ops.size → listed.getD i true = listed.getD i false := by
      intro i hi
      simp [Array.getD, hs, hi]
    simp only [Go.Region.linearise.go]
    split
    · rename_i i hi
      have hin := List.mem_of_getElem? hi
      rw [List.mem_filter] at hin
      obtain ⟨hr, hready⟩ := hin
      have hlt : i < ops.size := List.mem_range.1 hr
      simp only [Bool.and_eq_true, Bool.not_eq_true'] at hready
      obtain ⟨hun, hed⟩ := hready
      have hoi : ops[i]? = some ops[i] := Array.getElem?_eq_getElem hlt
      rw [hoi] at hed
      simp only [Option.map_some, Option.getD_some] at hed
      have hedge : ∀ e ∈ ops[i].after.toList, Go.Region.binds .any e = true → listed.getD e.on false = true := by
        intro e he hb
        rw [Array.all_eq_true_iff_forall_mem] at hed
        have := hed e (by simpa using he)
        simpa [hb] using this
      have hself : ∀ k, (listed.setIfInBounds i true).getD k false = true ↔ (listed.getD k false = true ∨ k = i) := by
        intro k
        by_cases e : k = i
        · subst e
          simp [Array.getD, hs, hlt]
        · simp only [Array.getD, Array.size_setIfInBounds]
          split
          · rename_i hk
            rw [Array.getInternal_eq_getElem, Array.getInternal_eq_getElem, Array.getElem_setIfInBounds_ne (by simpa using hk) (fun e2 => e e2.symm)]
            simp [e]
          · simp [e]
      have hself' : ∀ k, k < ops.size → ((listed.setIfInBounds i true).getD k true = false ↔ (listed.getD k true = false ∧ k ≠ i)) := by
        intro k hk
        have h1 := hself k
        have h2 : (listed.setIfInBounds i true).getD k true = (listed.setIfInBounds i true).getD k false := by simp [Array.getD, hs, hk]
        rw [h2, same k hk]
        constructor
        · intro h3
          constructor
          · cases h4 : listed.getD k false with
            | false => rfl
            | true => rw [h1.2 (.inl h4)] at h3; cases h3
          · intro e
            rw [h1.2 (.inr e)] at h3
            cases h3
        · rintro ⟨h3, h4⟩
          cases h5 : (listed.setIfInBounds i true).getD k false with
          | false => rfl
          | true =>
            rcases h1.1 h5 with h6 | h6
            · rw [h3] at h6; cases h6
            · exact absurd h6 h4
      rw [Go.linearise_go_acc, List.reverse_singleton, List.singleton_append]
      obtain ⟨a1, a2, a3, a4⟩ := ih (t / ((List.range ops.size).filter fun i => !listed.getD i true && ((ops[i]?).map (·.after.all fun e => !Go.Region.binds .any e || listed.getD e.on false)).getD false).length) (listed.setIfInBounds i true) (U.erase i) (by simpa using hs)
        (by have := List.length_erase_of_mem (hm i hlt hun); omega)
        (fun k hk1 hk2 => by
          obtain ⟨b1, b2⟩ := (hself' k hk1).1 hk2
          exact (List.mem_erase_of_ne b2).2 (hm k hk1 b1))
        (fun k hk j hj => by
          rw [hself] at hk ⊢
          left
          rcases hk with hk | rfl
          · exact hc k hk j hj
          · obtain ⟨e, e1, e2, e3⟩ := before_bit hoi hj
            have e4 := hedge e e1 e2
            rcases e3 with rfl | e3
            · exact e4
            · exact hc _ e4 j e3)
      refine ⟨List.nodup_cons.2 ⟨fun h => ?_, a1⟩, fun k hk => ?_, fun k hk1 hk2 => ?_, List.pairwise_cons.2 ⟨fun j hj => ?_, a4⟩⟩
      · obtain ⟨b1, b2⟩ := a2 i h
        exact ((hself' i b1).1 b2).2 rfl
      · rcases List.mem_cons.1 hk with rfl | hk
        · exact ⟨hlt, hun⟩
        · obtain ⟨b1, b2⟩ := a2 k hk
          exact ⟨b1, ((hself' k b1).1 b2).1⟩
      · by_cases e : k = i
        · subst e; exact List.mem_cons_self
        · exact List.mem_cons_of_mem _ (a3 k hk1 ((hself' k hk1).2 ⟨hk2, e⟩))
      · cases hb : ((Go.Region.before ops).getD i 0).testBit j with
        | false => rfl
        | true =>
          exfalso
          obtain ⟨b1, b2⟩ := a2 j hj
          have b3 := ((hself' j b1).1 b2).1
          rw [same j b1] at b3
          obtain ⟨e, e1, e2, e3⟩ := before_bit hoi hb
          have e4 := hedge e e1 e2
          rcases e3 with rfl | e3
          · rw [e4] at b3; cases b3
          · rw [hc _ e4 j e3] at b3; cases b3
    · rename_i hnone
      -- nothing is ready: all is listed
      have hall : ∀ i, i < ops.size → listed.getD i true = false → False := by
        intro i
        induction i using Nat.strongRecOn with
        | ind i ihi =>
          intro hlt hun
          have hoi : ops[i]? = some ops[i] := Array.getElem?_eq_getElem hlt
          have hready : i ∈ (List.range ops.size).filter fun i => !listed.getD i true && ((ops[i]?).map (·.after.all fun e => !Go.Region.binds .any e || listed.getD e.on false)).getD false := by
            refine List.mem_filter.2 ⟨List.mem_range.2 hlt, ?_⟩
            simp only [hun, Bool.not_false, Bool.true_and, hoi, Option.map_some, Option.getD_some]
            rw [Array.all_eq_true_iff_forall_mem]
            intro e he
            have hE1 := List.all_eq_true.1 hE i (List.mem_range.2 hlt)
            simp only [hoi] at hE1
            have hE2 := List.all_eq_true.1 hE1 e (by simpa using he)
            simp only [Bool.or_eq_true, Bool.not_eq_true', decide_eq_true_eq] at hE2 ⊢
            rcases hE2 with h | h
            · exact .inl h
            · right
              cases hl : listed.getD e.on false with
              | true => rfl
              | false => exact (ihi e.on h (by omega) (by rw [same _ (by omega)]; exact hl)).elim
          have hpos : 0 < ((List.range ops.size).filter fun i => !listed.getD i true && ((ops[i]?).map (·.after.all fun e => !Go.Region.binds .any e || listed.getD e.on false)).getD false).length := List.length_pos_of_mem hready
          have h2 := Nat.mod_lt t hpos
          rw [List.getElem?_eq_none_iff] at hnone
          omega
      simp only [List.reverse_nil]
      exact ⟨.nil, (by intro i hi; cases hi), (fun i h1 h2 => (hall i h1 h2).elim), .nil⟩

theorem linear_ok {ops : Array Go.Oper} (hE : edgesOk ops = true) (t : Nat) :
    (Go.Region.linearise .any ops t).Perm (List.range' 0 ops.size) ∧ (Go.Region.linearise .any ops t).Pairwise (fun i j => ((Go.Region.before ops).getD i 0).testBit j = false) := by
  have h0 : ∀ i, (Array.replicate ops.size false).getD i false = false := by
    intro i; simp [Array.getD]
  have h1 : ∀ i, i < ops.size → (Array.replicate ops.size false).getD i true = false := by
    intro i hi; simp [Array.getD, hi]
  obtain ⟨a1, a2, a3, a4⟩ := go_ok hE ops.size t (Array.replicate ops.size false) (List.range ops.size) (by simp) (by simp) (fun i hi _ => List.mem_range.2 hi) (fun k hk => by rw [h0] at hk; cases hk)
  refine ⟨?_, a4⟩
  refine (List.perm_ext_iff_of_nodup a1 List.nodup_range').2 fun i => ?_
  constructor
  · intro h
    have := (a2 i h).1
    simp [List.mem_range'_1]
    exact this
  · intro h
    have h2 : i < ops.size := by simpa [List.mem_range'_1] using h
    exact a3 i h2 (h1 i h2)

end Pi
