/- Contracts: arenas (layer 4): the document's put. -/
import Derived.Test.YtdeichdplcafcaaC04g
import Derived.Test.YtdeichdplcafcaaC02i
set_option linter.unusedSimpArgs false
set_option linter.unusedVariables false
namespace Pi
theorem putN_len (l : L) : ∀ (p q : Int) (d : Nat) (ns : List N), rightS l p q d = true → (putN l ns).1.length ≤ ns.length + (2 ^ d - 1) ∧ ns.length ≤ (putN l ns).1.length := by
  induction l using L.ind with
  | h l ih =>
  intro p q d ns hr
  obtain ⟨h1, h2, h3, h4⟩ := right_kid hr
  obtain ⟨e, rfl⟩ : ∃ e, d = e + 1 := ⟨d - 1, by omega⟩
  have h4' : ∀ k ∈ l.kids, rightS k p q (e : Nat) = true := fun k hk => by
    have := h4 k hk
    rwa [(by omega : (((e + 1 : Nat) : Int) - 1) = (e : Nat))] at this
  have hk2 : l.kids.length ≤ 2 := by rcases kidsS_cases l.kind with h | h | h | h <;> omega
  have h2e : 2 ^ (e + 1) = 2 ^ e * 2 := Nat.pow_succ 2 e
  have hpos : 0 < 2 ^ e := Nat.pow_pos (by omega)
  have key : (putKs l.kids ns).1.length ≤ ns.length + (2 ^ (e + 1) - 2) ∧ ns.length ≤ (putKs l.kids ns).1.length := by
    match hks : l.kids with
    | [] => rw [putKs_nil]; simp
    | [a] =>
      rw [putKs_cons, putKs_nil]
      have := ih a (by simp [hks]) p q e ns (h4' a (by simp [hks]))
      simp only
      omega
    | [a, b] =>
      rw [putKs_cons, putKs_cons, putKs_nil]
      have h5 := ih a (by simp [hks]) p q e ns (h4' a (by simp [hks]))
      have h6 := ih b (by simp [hks]) p q e (putN a ns).1 (h4' b (by simp [hks]))
      simp only
      omega
    | a :: b :: c :: r => rw [hks] at hk2; simp at hk2
  rw [putN_eq]
  split
  · simp only; omega
  · simp; omega
/-- The contract of the document's put. -/
def PutW (l : L) (d : Nat) : Prop := ∀ (ns : List N) (B : V) (m : Sto) (x : Nat) (K : CR → Sto → Nat → Prop), ns.length + 2 ^ d ≤ 90000 → Eg m B cN 4 ns 0 x →
  (∀ B' m' x', x ≤ x' → Eg m' B' cN 4 (putN l ns).1 0 x' → (∀ j, j ∈ refOf B' → j ∈ refOf B ∨ x ≤ j) → (∀ j, j < x → j ∉ refOf B → m' j = m j) →
    (∀ S : Nat → Bool, (∀ j, x ≤ j → S j = true) → B.inn S = true → Inn S m → Inn S m' ∧ B'.inn S = true) → K (.ret (.tu [.ag [B'], .i .i64 (putN l ns).2])) m' x') →
  w ctx (envOf [.ag [B], .ag (cL l)]) m x [] none none (RetG ctx ref04_put.c.rs K) ref04_put.c.code
theorem Eg.inn {α : Type} {f : α → List V} {k : Nat} {m : Sto} {B : V} {l : List α} {lo x : Nat} (h : Eg m B f k l lo x) {S : Nat → Bool} (hS : ∀ j, j ∈ refOf B → S j = true) : B.inn S = true := by
  rcases h with ⟨rfl, _⟩ | ⟨a, rfl, _⟩
  · rfl
  · exact hS a (by simp [refOf])
theorem Eg.frz {m : Sto} {B : V} {l : List N} {x : Nat} (h : Eg m B cN 4 l 0 x) (k : L) : ∃ a, freezeL m [.ag [B], .ag (cL k)] = some (a, refOf B) := by
  have h24 := h.bf.fz24
  refine ⟨[.ag [sV cN l], .ag (cL k)], ?_⟩
  unfold freezeL
  have : DEEP = 24 := rfl
  rw [this]
  simp [h24]
theorem put_q {k : L} {d : Nat} (hp : PutW k d) {ns : List N} {B : V} {m : Sto} {x : Nat} {K : QR → Prop} (hs : ns.length + 2 ^ d ≤ 90000) (hB : Eg m B cN 4 ns 0 x)
    (hK : ∀ B' ws ids m2 x', m.app ws = m2 → x ≤ x' → Eg m2 B' cN 4 (putN k ns).1 0 x' → (∀ j, j ∈ refOf B' → j ∈ refOf B ∨ x ≤ j) → (∀ j, j < x → j ∉ refOf B → m2 j = m j) → (∀ l ∈ ids, l ∈ refOf B ∨ (x ≤ l ∧ l < x')) → ws.map Prod.fst = ids →
      (∀ S : Nat → Bool, (∀ j, x ≤ j → S j = true) → B.inn S = true → Inn S m → Inn S m2 ∧ B'.inn S = true) → K ⟨.tu [.ag [B'], .i .i64 (putN k ns).2], ws, ids, x'⟩) :
    wpQuiet ctx (.fn (.func ref04_put.n) [] []) [.ag [B], .ag (cL k)] m x K := by
  obtain ⟨a, ha⟩ := hB.frz k
  have hne : refOf B ≠ [] ∨ nsyL [V.ag [B], .ag (cL k)] = true := by
    rcases hB with ⟨rfl, _⟩ | ⟨b, rfl, _⟩
    · exact .inr rfl
    · exact .inl (by simp [refOf])
  have hcell : ∀ l ∈ refOf B, m l = some (.cells (ns.flatMap cN) false) ∧ l < x := fun l hl => by
    rcases hB with ⟨rfl, _⟩ | ⟨b, rfl, h1, _, h3⟩
    · simp [refOf] at hl
    · simp [refOf] at hl
      subst hl
      exact ⟨h1, h3⟩
  have hok : reachOK [V.ag [B], .ag (cL k)] (refOf B) m x = true := by
    unfold reachOK
    simp only [Bool.and_eq_true, List.all_eq_true, decide_eq_true_eq, innL, V.inn, inn_L, Bool.and_true]
    refine ⟨hB.inn fun j hj => by simpa using hj, fun l hl => ?_⟩
    obtain ⟨h1, h2⟩ := hcell l hl
    rw [h1]
    exact ⟨h2, inn_N _ _⟩
  have honly : Eg (m.only (refOf B)) B cN 4 ns 0 x := by
    rcases hB with ⟨rfl, h⟩ | ⟨b, rfl, h1, h2, h3⟩
    · exact .inl ⟨rfl, h⟩
    · exact .inr ⟨b, rfl, by unfold Sto.only; rw [if_pos (by simp [refOf]), h1], h2, h3⟩
  refine openr_w rfl rfl rfl rfl (a := (a, refOf B)) ha hne hok ?_
  refine hp ns B _ x _ hs honly ?_
  intro B' m' x' h1 h2 h3 h4 h5
  have hSR : ∀ j, x ≤ j → orNew (refOf B) x j = true := fun j hj => by simp [orNew, hj]
  have hBR : B.inn (orNew (refOf B) x) = true := hB.inn fun j hj => by simp [orNew, hj]
  have hIn0 : Inn (orNew (refOf B) x) (m.only (refOf B)) := fun j hj => by
    unfold Sto.only
    split
    · rename_i hc
      rw [(hcell j (by simpa using hc)).1]
      exact inn_N _ _
    · rfl
  obtain ⟨i1, i2⟩ := h5 _ hSR hBR hIn0
  refine ⟨by simp [V.inn, innL, i2], fun l hl => i1 l (by simp [orNew, hl]), fun j q1 q2 => i1 j (hSR j q1), fun ws ids w1 w2 w3 => ?_⟩
  have hxx : x + (x' - x) = x' := by omega
  rw [hxx]
  have hM : ∀ l, (m.app ws) l = if x ≤ l ∧ l < x' then m' l else if (refOf B).contains l = true then m' l else m l := w3 m
  refine hK B' ws ids _ x' rfl h1 ?_ h3 (fun j q1 q2 => ?_) w1 w2 (fun S s1 s2 s3 => ?_)
  · rcases h2 with h2 | ⟨b, rfl, z1, z2, z3⟩
    · exact .inl h2
    · refine .inr ⟨b, rfl, ?_, z2, z3⟩
      rw [hM]
      rcases h3 b (by simp [refOf]) with q | q
      · have hbx := (hcell b q).2
        rw [if_neg (by omega), if_pos (by simpa using q), z1]
      · rw [if_pos ⟨q, z3⟩, z1]
  · rw [hM, if_neg (by omega), if_neg (by simpa using q2)]
  · obtain ⟨j1, j2⟩ := h5 S s1 s2 (s3.only _)
    refine ⟨fun j hj => ?_, j2⟩
    rw [hM]
    split
    · exact j1 j hj
    · split
      · exact j1 j hj
      · exact s3 j hj
set_option maxRecDepth 20000 in
set_option maxHeartbeats 4000000 in
theorem ref04_put.w (l : L) : ∀ (p q : Int) (d : Nat), d ≤ 12 → rightS l p q d = true → PutW l d := by
  induction l using L.ind with
  | h l ih =>
  intro p q d hd hr ns B m x K hs hB hK
  obtain ⟨h1, h2, h3, h4⟩ := right_kid hr
  obtain ⟨e, rfl⟩ : ∃ e, d = e + 1 := ⟨d - 1, by omega⟩
  have h4' : ∀ k ∈ l.kids, rightS k p q (e : Nat) = true := fun k hk => by
    have := h4 k hk
    rwa [(by omega : (((e + 1 : Nat) : Int) - 1) = (e : Nat))] at this
  have hk2 : l.kids.length ≤ 2 := by rcases kidsS_cases l.kind with h | h | h | h <;> omega
  have h2e : 2 ^ (e + 1) = 2 ^ e * 2 := Nat.pow_succ 2 e
  have hpos : 0 < 2 ^ e := Nat.pow_pos (by omega)
  have hst := hB.stor
  have hfa : ctx.frz ref04_put.n = false := rfl
  have hBr : ∀ j, j ∈ refOf B → j < x := fun j hj => by have := hB.ref hj; omega
  have tail : ∀ (E : Env) (MM : Sto) (X : Nat) (n1 : List N) (B1 : V) (a b : Nat), putKs l.kids ns = (n1, (putKs l.kids ns).2) → nodeOf l (putKs l.kids ns) = ⟨l.kind, l.n, a, b⟩ → n1.length ≤ 90000 → E 2 = .p x 0 → E 4 = .p (x + 2) 0 → E 6 = .p (x + 9) 0 → E 7 = .i .i64 0 → x + 10 ≤ X →
      MM x = some (.cells [B1] false) → MM (x + 2) = some (.cells [.ns] false) → MM (x + 9) = some (.cells [.i .i64 l.kind, .i .i64 l.n, .i .i64 a, .i .i64 b] false) → Eg MM B1 cN 4 n1 0 X → (∀ j, j ∈ refOf B1 → j ∈ refOf B ∨ x + 10 ≤ j) → (∀ j, j < x → j ∉ refOf B → MM j = m j) →
      (∀ S : Nat → Bool, (∀ j, x ≤ j → S j = true) → B.inn S = true → Inn S m → Inn S MM ∧ B1.inn S = true) →
      Pi.w ctx E MM X [] none none (BlkK 0 (SeqK ctx
        ((PCode.reg
              [Seg.seq
                  [{ d := some 57, o := POp.fa 0 (Opd.t 2), g := none },
                    { d := some 58, o := POp.ld false 1 (Opd.t 57), g := none },
                    { d := some 59, o := POp.ld true 4 (Opd.t 6), g := none },
                    { d := some 60, o := POp.bs 4 1 [V.i .i64 0, V.i .i64 0, V.i .i64 0, V.i .i64 0] [(0, 4, Opd.t 59)], g := none },
                    { d := some 61, o := POp.ap 4 (Opd.t 58) (Opd.t 60), g := none },
                    { d := some 62, o := POp.fa 0 (Opd.t 2), g := none },
                    { d := none, o := POp.st 1 (Opd.t 62) (Opd.t 61), g := none }]]).seq
          ((PCode.reg
                [Seg.any
                    [{ d := some 63, o := POp.ld true 1 (Opd.t 2), g := none },
                      { d := some 64, o := POp.fa 0 (Opd.t 2), g := none },
                      { d := some 65, o := POp.ld false 1 (Opd.t 64), g := none },
                      { d := some 66, o := POp.ln LK.l (Opd.t 65), g := none },
                      { d := some 67, o := POp.bi Go.BinOp.sub (Opd.t 66) (Opd.c (V.i .i64 1)), g := none },
                      { d := none, o := POp.st 1 (Opd.t 4) (Opd.t 63), g := none }]
                    [(2, 5), (3, 5)],
                  Seg.seq [{ d := some 5, o := POp.mv (Opd.t 67), g := none }]]).seq
            PCode.ret)) (RetG ctx [RVar.c 4 true 1, RVar.t 5] K))) (PCode.loop ref04_put.b1) := by
    intro E MM X n1 B1 a b hp0 hnode hn1 E2 E4 E6 E7 hX M0 M2 M9 hE1 hr1 hfr hcl
    have hpe : putN l ns = match posN ⟨l.kind, l.n, a, b⟩ n1 0 with
      | some j => (n1, j)
      | none => (n1 ++ [⟨l.kind, l.n, a, b⟩], n1.length) := by
      rw [putN_eq, hnode, hp0]
      rfl
    have s1 := hE1.stor
    have hb1 : ∀ j, j ∈ refOf B1 → j ≠ x ∧ j ≠ x + 2 ∧ j ≠ x + 9 := fun j hj => by
      rcases hr1 j hj with h | h
      · have := hBr j h; omega
      · omega
    refine for_w (fun i e m' x' => e 2 = .p x 0 ∧ e 4 = .p (x + 2) 0 ∧ e 6 = .p (x + 9) 0 ∧ e 7 = .i .i64 i ∧ X ≤ x' ∧ m' = MM ∧ posN ⟨l.kind, l.n, a, b⟩ n1 0 = posN ⟨l.kind, l.n, a, b⟩ (n1.drop i) i) n1.length ?_ ?_ ?_
    · simp +contextual (disch := omega) [Nat.add_assoc, Int.add_assoc, if_pos, if_neg, -Int.not_lt, -Int.not_le, -Nat.not_lt, -Nat.not_le, -List.length_flatMap, E2, E4, E6, E7]
    · rintro i e m' x' hi ⟨g2, g4, g6, g7, gx, rfl, gp⟩
      have hEq : eqQ (.many [.i, .i, .i, .i]) (.ag (cN n1[i])) (.ag [.i .i64 l.kind, .i .i64 l.n, .i .i64 a, .i .i64 b]) = some (decide (n1[i] = ⟨l.kind, l.n, a, b⟩)) := eqN n1[i] ⟨l.kind, l.n, a, b⟩
      obtain ⟨c, hcB, hc1, hc2, hc3⟩ := hE1.at (by intro h; rw [h] at hi; simp at hi)
      have hln : (n1.flatMap cN).length = n1.length * 4 := flat_ln (k := 4) n1
      have hge := flatN_get n1 i hi
      obtain ⟨P, hP⟩ : ∃ P, P = i * 4 := ⟨_, rfl⟩
      rw [← hP] at hge
      have hP2 : P + 4 ≤ n1.length * 4 := by omega
      have hlnB : lenSl (.ms c 0 n1.length 4) = some n1.length := rfl
      rw [List.drop_eq_getElem_cons hi, posN] at gp
      by_cases he : n1[i] = ⟨l.kind, l.n, a, b⟩
      · rw [decide_eq_true he] at hEq
        rw [if_pos he.symm] at gp
        rw [gp] at hpe
        simp +contextual (disch := omega) [Nat.add_assoc, Int.add_assoc, if_pos, if_neg, -Int.not_lt, -Int.not_le, -Nat.not_lt, -Nat.not_le, -List.length_flatMap, ref04_put.b1, g2, g4, g6, g7, M0, M2, M9, hcB, hc1, hi, hln, hge, hP.symm, hP2, hEq]
        rw [hpe] at hK
        rw [← hcB]
        refine hK _ _ _ (by omega) (hE1.mv (by omega) (fun j q1 => ?_)) (fun j hj => ?_) (fun j q1 q2 => ?_) (fun S w1 w2 w3 => ?_)
        · exact Sto.sne _ _ _ _ (hb1 j q1).2.1
        · rcases hr1 j hj with h | h
          · exact .inl h
          · exact .inr (by omega)
        · rw [Sto.sne _ _ _ _ (by omega)]
          exact hfr j q1 q2
        · obtain ⟨i1, i2⟩ := hcl S w1 w2 w3
          exact ⟨i1.set (by simp [innO, innL, i2]), i2⟩
      · rw [decide_eq_false he] at hEq
        rw [if_neg (fun h => he h.symm)] at gp
        simp +contextual (disch := omega) [Nat.add_assoc, Int.add_assoc, if_pos, if_neg, -Int.not_lt, -Int.not_le, -Nat.not_lt, -Nat.not_le, -List.length_flatMap, ref04_put.b1, g2, g4, g6, g7, M0, M2, M9, hcB, hc1, hi, hln, hge, hP.symm, hP2, hEq]
        exact ⟨by omega, gp⟩
    · rintro e m' x' ⟨g2, g4, g6, g7, gx, rfl, gp⟩
      rw [List.drop_of_length_le (Nat.le_refl _), posN] at gp
      rw [gp] at hpe
      simp +contextual (disch := omega) [Nat.add_assoc, Int.add_assoc, if_pos, if_neg, -Int.not_lt, -Int.not_le, -Nat.not_lt, -Nat.not_le, -List.length_flatMap, ref04_put.b1, g2, g4, g6, g7, M0, M2, M9, s1.1, s1.2.1, s1.2.2, -apV_ns]
      refine hE1.apy [⟨l.kind, l.n, a, b⟩] (fun j h => by have := hE1.ref h; simp +contextual (disch := omega) [Nat.add_assoc, Int.add_assoc, if_pos, if_neg, -Int.not_lt, -Int.not_le, -Nat.not_lt, -Nat.not_le, -List.length_flatMap]) (by omega) rfl rfl (by simp) (by simp; omega) ?_
      intro ws m2 v1 v2 v3 v4
      have r0 : m2 x = some (.cells [B1] false) := by rw [v3 x (fun h => (hb1 _ h).1 rfl) (by omega)]; simp +contextual (disch := omega) [Nat.add_assoc, Int.add_assoc, if_pos, if_neg, -Int.not_lt, -Int.not_le, -Nat.not_lt, -Nat.not_le, -List.length_flatMap, M0]
      have r2 : m2 (x + 2) = some (.cells [.ns] false) := by rw [v3 _ (fun h => (hb1 _ h).2.1 rfl) (by omega)]; simp +contextual (disch := omega) [Nat.add_assoc, Int.add_assoc, if_pos, if_neg, -Int.not_lt, -Int.not_le, -Nat.not_lt, -Nat.not_le, -List.length_flatMap, M2]
      simp +contextual (disch := omega) [Nat.add_assoc, Int.add_assoc, if_pos, if_neg, -Int.not_lt, -Int.not_le, -Nat.not_lt, -Nat.not_le, -List.length_flatMap, v1, g2, g4, r0, r2]
      rw [hpe] at hK
      refine hK _ _ _ (by omega) (.inr ⟨x' + 9, by simp, ?_, by omega, by omega⟩) (fun j hj => .inr (by simp [refOf] at hj; omega)) (fun j q1 q2 => ?_) (fun S w1 w2 w3 => ?_)
      · rw [Sto.sne _ _ _ _ (by omega), Sto.sne _ _ _ _ (by omega), v2]
      · rw [Sto.sne _ _ _ _ (by omega), Sto.sne _ _ _ _ (by omega)]
        by_cases hj : j ∈ refOf B1
        · rcases hr1 j hj with h | h
          · exact absurd h q2
          · omega
        · rw [v3 j hj (by omega), Sto.sne _ _ _ _ (by omega)]
          exact hfr j q1 q2
      · obtain ⟨i1, i2⟩ := hcl S w1 w2 w3
        have i3 : Inn S m2 := fun j hj => by
          by_cases h1 : j = x' + 9
          · rw [h1, v2]; exact inn_N S _
          · by_cases h2 : j ∈ refOf B1
            · rw [v4 j h2 h1]; rfl
            · rw [v3 j h2 h1]
              exact (i1.set (by simp [innO, innL, V.inn])) j hj
        have i4 : S (x' + 9) = true := w1 _ (by omega)
        exact ⟨(i3.set (by simp [innO, innL, V.inn, i4])).set (by simp [innO, innL, V.inn, i4]), i4⟩
  match hks : l.kids with
  | [] =>
    simp +contextual (disch := omega) [Nat.add_assoc, Int.add_assoc, if_pos, if_neg, -Int.not_lt, -Int.not_le, -Nat.not_lt, -Nat.not_le, -List.length_flatMap, ref04_put.c, hks, hst.1, hst.2.1]
    refine tail _ _ _ ns B 0 0 (by rw [hks, putKs_nil]) (by rw [hks, putKs_nil]; rfl) (by omega) (by simp +contextual (disch := omega) [Nat.add_assoc, Int.add_assoc, if_pos, if_neg, -Int.not_lt, -Int.not_le, -Nat.not_lt, -Nat.not_le, -List.length_flatMap]) (by simp +contextual (disch := omega) [Nat.add_assoc, Int.add_assoc, if_pos, if_neg, -Int.not_lt, -Int.not_le, -Nat.not_lt, -Nat.not_le, -List.length_flatMap]) (by simp +contextual (disch := omega) [Nat.add_assoc, Int.add_assoc, if_pos, if_neg, -Int.not_lt, -Int.not_le, -Nat.not_lt, -Nat.not_le, -List.length_flatMap]) (by simp +contextual (disch := omega) [Nat.add_assoc, Int.add_assoc, if_pos, if_neg, -Int.not_lt, -Int.not_le, -Nat.not_lt, -Nat.not_le, -List.length_flatMap]) (by omega) (by simp +contextual (disch := omega) [Nat.add_assoc, Int.add_assoc, if_pos, if_neg, -Int.not_lt, -Int.not_le, -Nat.not_lt, -Nat.not_le, -List.length_flatMap]) (by simp +contextual (disch := omega) [Nat.add_assoc, Int.add_assoc, if_pos, if_neg, -Int.not_lt, -Int.not_le, -Nat.not_lt, -Nat.not_le, -List.length_flatMap]) (by simp +contextual (disch := omega) [Nat.add_assoc, Int.add_assoc, if_pos, if_neg, -Int.not_lt, -Int.not_le, -Nat.not_lt, -Nat.not_le, -List.length_flatMap]) (hB.mv (by omega) (fun j h => by have := hBr j h; simp +contextual (disch := omega) [Nat.add_assoc, Int.add_assoc, if_pos, if_neg, -Int.not_lt, -Int.not_le, -Nat.not_lt, -Nat.not_le, -List.length_flatMap])) (fun j h => .inl h) (fun j h1 h2 => by simp +contextual (disch := omega) [Nat.add_assoc, Int.add_assoc, if_pos, if_neg, -Int.not_lt, -Int.not_le, -Nat.not_lt, -Nat.not_le, -List.length_flatMap]) (fun S w1 w2 w3 => ⟨?_, w2⟩)
    exact ((((w3.set (by simp [innO, innL, w2])).set (o := some (.cells (cL l) false)) (inn_L S l)).set rfl).set rfl).set rfl
  | [a] =>
    have pa := ih a (by simp [hks]) p q e (by omega) (h4' a (by simp [hks]))
    simp +contextual (disch := omega) [Nat.add_assoc, Int.add_assoc, if_pos, if_neg, -Int.not_lt, -Int.not_le, -Nat.not_lt, -Nat.not_le, -List.length_flatMap, ref04_put.c, hks, hst.1, hst.2.1]
    rw [CallX_op (by rfl)]
    refine openg_w ref04_put.f rfl (.inl rfl) ?_
    rw [hfa]
    refine pa ns B _ _ _ (by omega) (hB.up (Nat.le_refl _) (by omega) (fun j h1 h2 => by simp +contextual (disch := omega) [Nat.add_assoc, Int.add_assoc, if_pos, if_neg, -Int.not_lt, -Int.not_le, -Nat.not_lt, -Nat.not_le, -List.length_flatMap])) ?_
    intro B1 m1 x1 u1 u2 u3 u4 u5
    have s1 := u2.stor
    have q0 : m1 x = some (.cells [B] false) := by rw [u4 x (by omega) (fun h => by have := hBr x h; omega)]; simp +contextual (disch := omega) [Nat.add_assoc, Int.add_assoc, if_pos, if_neg, -Int.not_lt, -Int.not_le, -Nat.not_lt, -Nat.not_le, -List.length_flatMap]
    have q1 : m1 (x + 1) = some (.cells (cL l) false) := by rw [u4 _ (by omega) (fun h => by have := hBr _ h; omega)]; simp +contextual (disch := omega) [Nat.add_assoc, Int.add_assoc, if_pos, if_neg, -Int.not_lt, -Int.not_le, -Nat.not_lt, -Nat.not_le, -List.length_flatMap]
    have q2 : m1 (x + 2) = some (.cells [.ns] false) := by rw [u4 _ (by omega) (fun h => by have := hBr _ h; omega)]; simp +contextual (disch := omega) [Nat.add_assoc, Int.add_assoc, if_pos, if_neg, -Int.not_lt, -Int.not_le, -Nat.not_lt, -Nat.not_le, -List.length_flatMap]
    have q9 : m1 (x + 9) = some (.cells [.i .i64 l.kind, .i .i64 l.n, .i .i64 0, .i .i64 0] false) := by rw [u4 _ (by omega) (fun h => by have := hBr _ h; omega)]; simp +contextual (disch := omega) [Nat.add_assoc, Int.add_assoc, if_pos, if_neg, -Int.not_lt, -Int.not_le, -Nat.not_lt, -Nat.not_le, -List.length_flatMap]
    simp +contextual (disch := omega) [Nat.add_assoc, Int.add_assoc, if_pos, if_neg, -Int.not_lt, -Int.not_le, -Nat.not_lt, -Nat.not_le, -List.length_flatMap, q0, q1, q2, q9, s1.1, s1.2.1, hks]
    have hlen := (putN_len a p q e ns (h4' a (by simp [hks]))).1
    have hrB : ∀ j, j ∈ refOf B1 → j ≠ x ∧ j ≠ x + 9 := fun j h => by
      rcases u3 j h with h | h
      · have := hBr j h; omega
      · omega
    refine tail _ _ _ (putN a ns).1 B1 (putN a ns).2 0 (by rw [hks, putKs_cons, putKs_nil]) (by rw [hks, putKs_cons, putKs_nil]; rfl) (by omega) (by simp +contextual (disch := omega) [Nat.add_assoc, Int.add_assoc, if_pos, if_neg, -Int.not_lt, -Int.not_le, -Nat.not_lt, -Nat.not_le, -List.length_flatMap]) (by simp +contextual (disch := omega) [Nat.add_assoc, Int.add_assoc, if_pos, if_neg, -Int.not_lt, -Int.not_le, -Nat.not_lt, -Nat.not_le, -List.length_flatMap]) (by simp +contextual (disch := omega) [Nat.add_assoc, Int.add_assoc, if_pos, if_neg, -Int.not_lt, -Int.not_le, -Nat.not_lt, -Nat.not_le, -List.length_flatMap]) (by simp +contextual (disch := omega) [Nat.add_assoc, Int.add_assoc, if_pos, if_neg, -Int.not_lt, -Int.not_le, -Nat.not_lt, -Nat.not_le, -List.length_flatMap]) (by omega) (by simp +contextual (disch := omega) [Nat.add_assoc, Int.add_assoc, if_pos, if_neg, -Int.not_lt, -Int.not_le, -Nat.not_lt, -Nat.not_le, -List.length_flatMap]) (by simp +contextual (disch := omega) [Nat.add_assoc, Int.add_assoc, if_pos, if_neg, -Int.not_lt, -Int.not_le, -Nat.not_lt, -Nat.not_le, -List.length_flatMap, q2]) (by simp +contextual (disch := omega) [Nat.add_assoc, Int.add_assoc, if_pos, if_neg, -Int.not_lt, -Int.not_le, -Nat.not_lt, -Nat.not_le, -List.length_flatMap])
      (u2.mv (by omega) (fun j h => by rw [Sto.sne _ _ _ _ (hrB j h).2, Sto.sne _ _ _ _ (hrB j h).1])) (fun j h => by rcases u3 j h with h | h; exact .inl h; exact .inr (by omega)) (fun j h1 h2 => ?_) (fun S w1 w2 w3 => ?_)
    · rw [Sto.sne _ _ _ _ (by omega), Sto.sne _ _ _ _ (by omega), u4 j (by omega) h2]
      simp +contextual (disch := omega) [Nat.add_assoc, Int.add_assoc, if_pos, if_neg, -Int.not_lt, -Int.not_le, -Nat.not_lt, -Nat.not_le, -List.length_flatMap]
    · obtain ⟨i1, i2⟩ := u5 S (fun j hj => w1 j (by omega)) w2 (((((w3.set (by simp [innO, innL, w2])).set (o := some (.cells (cL l) false)) (inn_L S l)).set rfl).set rfl).set rfl)
      exact ⟨(i1.set (by simp [innO, innL, i2])).set rfl, i2⟩
  | [a, b] =>
    have pa := ih a (by simp [hks]) p q e (by omega) (h4' a (by simp [hks]))
    have pb := ih b (by simp [hks]) p q e (by omega) (h4' b (by simp [hks]))
    have hlen := (putN_len a p q e ns (h4' a (by simp [hks]))).1
    have hlen2 := (putN_len b p q e (putN a ns).1 (h4' b (by simp [hks]))).1
    simp +contextual (disch := omega) [Nat.add_assoc, Int.add_assoc, if_pos, if_neg, -Int.not_lt, -Int.not_le, -Nat.not_lt, -Nat.not_le, -List.length_flatMap, ref04_put.c, hks, hst.1, hst.2.1]
    rw [CallX_op (by rfl)]
    refine openg_w ref04_put.f rfl (.inl rfl) ?_
    rw [hfa]
    refine pa ns B _ _ _ (by omega) (hB.up (Nat.le_refl _) (by omega) (fun j h1 h2 => by simp +contextual (disch := omega) [Nat.add_assoc, Int.add_assoc, if_pos, if_neg, -Int.not_lt, -Int.not_le, -Nat.not_lt, -Nat.not_le, -List.length_flatMap])) ?_
    intro B1 m1 x1 u1 u2 u3 u4 u5
    have s1 := u2.stor
    have q0 : m1 x = some (.cells [B] false) := by rw [u4 x (by omega) (fun h => by have := hBr x h; omega)]; simp +contextual (disch := omega) [Nat.add_assoc, Int.add_assoc, if_pos, if_neg, -Int.not_lt, -Int.not_le, -Nat.not_lt, -Nat.not_le, -List.length_flatMap]
    have q1 : m1 (x + 1) = some (.cells (cL l) false) := by rw [u4 _ (by omega) (fun h => by have := hBr _ h; omega)]; simp +contextual (disch := omega) [Nat.add_assoc, Int.add_assoc, if_pos, if_neg, -Int.not_lt, -Int.not_le, -Nat.not_lt, -Nat.not_le, -List.length_flatMap]
    have q2 : m1 (x + 2) = some (.cells [.ns] false) := by rw [u4 _ (by omega) (fun h => by have := hBr _ h; omega)]; simp +contextual (disch := omega) [Nat.add_assoc, Int.add_assoc, if_pos, if_neg, -Int.not_lt, -Int.not_le, -Nat.not_lt, -Nat.not_le, -List.length_flatMap]
    have q9 : m1 (x + 9) = some (.cells [.i .i64 l.kind, .i .i64 l.n, .i .i64 0, .i .i64 0] false) := by rw [u4 _ (by omega) (fun h => by have := hBr _ h; omega)]; simp +contextual (disch := omega) [Nat.add_assoc, Int.add_assoc, if_pos, if_neg, -Int.not_lt, -Int.not_le, -Nat.not_lt, -Nat.not_le, -List.length_flatMap]
    have hrB : ∀ j, j ∈ refOf B1 → j ≠ x ∧ j ≠ x + 1 ∧ j ≠ x + 2 ∧ j ≠ x + 9 := fun j h => by
      rcases u3 j h with h | h
      · have := hBr j h; omega
      · omega
    simp +contextual (disch := omega) [Nat.add_assoc, Int.add_assoc, if_pos, if_neg, -Int.not_lt, -Int.not_le, -Nat.not_lt, -Nat.not_le, -List.length_flatMap, q0, q1, q2, q9, s1.1, s1.2.1, hks]
    rw [CallX_op (by rfl)]
    refine openg_w ref04_put.f rfl (.inl rfl) ?_
    rw [hfa]
    refine pb (putN a ns).1 B1 _ _ _ (by omega) (u2.mv (by omega) (fun j h => by rw [Sto.sne _ _ _ _ (hrB j h).2.2.2, Sto.sne _ _ _ _ (hrB j h).1])) ?_
    intro B2 m2 x2 v1 v2 v3 v4 v5
    have s2 := v2.stor
    have hrB' : ∀ j, j ∈ refOf B1 → j < x ∨ x + 10 ≤ j := fun j h => by
      rcases u3 j h with h | h
      · have := hBr j h; omega
      · omega
    have r0 : m2 x = some (.cells [B1] false) := by rw [v4 x (by omega) (fun h => (hrB _ h).1 rfl)]; simp +contextual (disch := omega) [Nat.add_assoc, Int.add_assoc, if_pos, if_neg, -Int.not_lt, -Int.not_le, -Nat.not_lt, -Nat.not_le, -List.length_flatMap]
    have r1 : m2 (x + 1) = some (.cells (cL l) false) := by rw [v4 _ (by omega) (fun h => (hrB _ h).2.1 rfl)]; simp +contextual (disch := omega) [Nat.add_assoc, Int.add_assoc, if_pos, if_neg, -Int.not_lt, -Int.not_le, -Nat.not_lt, -Nat.not_le, -List.length_flatMap, q1]
    have r2 : m2 (x + 2) = some (.cells [.ns] false) := by rw [v4 _ (by omega) (fun h => (hrB _ h).2.2.1 rfl)]; simp +contextual (disch := omega) [Nat.add_assoc, Int.add_assoc, if_pos, if_neg, -Int.not_lt, -Int.not_le, -Nat.not_lt, -Nat.not_le, -List.length_flatMap, q2]
    have r9 : m2 (x + 9) = some (.cells [.i .i64 l.kind, .i .i64 l.n, .i .i64 (putN a ns).2, .i .i64 0] false) := by rw [v4 _ (by omega) (fun h => (hrB _ h).2.2.2 rfl)]; simp +contextual (disch := omega) [Nat.add_assoc, Int.add_assoc, if_pos, if_neg, -Int.not_lt, -Int.not_le, -Nat.not_lt, -Nat.not_le, -List.length_flatMap]
    simp +contextual (disch := omega) [Nat.add_assoc, Int.add_assoc, if_pos, if_neg, -Int.not_lt, -Int.not_le, -Nat.not_lt, -Nat.not_le, -List.length_flatMap, r0, r1, r2, r9, s2.1, s2.2.1]
    have hrB2 : ∀ j, j ∈ refOf B2 → (j ∈ refOf B ∨ x + 10 ≤ j) := fun j h => by
      rcases v3 j h with h | h
      · rcases u3 j h with h | h
        · exact .inl h
        · exact .inr (by omega)
      · exact .inr (by omega)
    have hrB3 : ∀ j, j ∈ refOf B2 → j ≠ x ∧ j ≠ x + 9 := fun j h => by
      rcases hrB2 j h with h | h
      · have := hBr j h; omega
      · omega
    refine tail _ _ _ (putN b (putN a ns).1).1 B2 (putN a ns).2 (putN b (putN a ns).1).2 (by rw [hks, putKs_cons, putKs_cons, putKs_nil]) (by rw [hks, putKs_cons, putKs_cons, putKs_nil]; rfl) (by omega) (by simp +contextual (disch := omega) [Nat.add_assoc, Int.add_assoc, if_pos, if_neg, -Int.not_lt, -Int.not_le, -Nat.not_lt, -Nat.not_le, -List.length_flatMap]) (by simp +contextual (disch := omega) [Nat.add_assoc, Int.add_assoc, if_pos, if_neg, -Int.not_lt, -Int.not_le, -Nat.not_lt, -Nat.not_le, -List.length_flatMap]) (by simp +contextual (disch := omega) [Nat.add_assoc, Int.add_assoc, if_pos, if_neg, -Int.not_lt, -Int.not_le, -Nat.not_lt, -Nat.not_le, -List.length_flatMap]) (by simp +contextual (disch := omega) [Nat.add_assoc, Int.add_assoc, if_pos, if_neg, -Int.not_lt, -Int.not_le, -Nat.not_lt, -Nat.not_le, -List.length_flatMap]) (by omega) (by simp +contextual (disch := omega) [Nat.add_assoc, Int.add_assoc, if_pos, if_neg, -Int.not_lt, -Int.not_le, -Nat.not_lt, -Nat.not_le, -List.length_flatMap]) (by simp +contextual (disch := omega) [Nat.add_assoc, Int.add_assoc, if_pos, if_neg, -Int.not_lt, -Int.not_le, -Nat.not_lt, -Nat.not_le, -List.length_flatMap, r2]) (by simp +contextual (disch := omega) [Nat.add_assoc, Int.add_assoc, if_pos, if_neg, -Int.not_lt, -Int.not_le, -Nat.not_lt, -Nat.not_le, -List.length_flatMap])
      (v2.mv (by omega) (fun j h => by rw [Sto.sne _ _ _ _ (hrB3 j h).2, Sto.sne _ _ _ _ (hrB3 j h).1])) hrB2 (fun j h1 h2 => ?_) (fun S w1 w2 w3 => ?_)
    · have hn : j ∉ refOf B1 := fun h => by
        rcases u3 j h with h | h
        · exact h2 h
        · omega
      rw [Sto.sne _ _ _ _ (by omega), Sto.sne _ _ _ _ (by omega), v4 j (by omega) hn, Sto.sne _ _ _ _ (by omega), Sto.sne _ _ _ _ (by omega), u4 j (by omega) h2]
      simp +contextual (disch := omega) [Nat.add_assoc, Int.add_assoc, if_pos, if_neg, -Int.not_lt, -Int.not_le, -Nat.not_lt, -Nat.not_le, -List.length_flatMap]
    · obtain ⟨i1, i2⟩ := u5 S (fun j hj => w1 j (by omega)) w2 (((((w3.set (by simp [innO, innL, w2])).set (o := some (.cells (cL l) false)) (inn_L S l)).set rfl).set rfl).set rfl)
      obtain ⟨j1, j2⟩ := v5 S (fun j hj => w1 j (by omega)) i2 ((i1.set (by simp [innO, innL, i2])).set rfl)
      exact ⟨(j1.set (by simp [innO, innL, j2])).set rfl, j2⟩
  | a :: b :: c :: r => rw [hks] at hk2; simp at hk2
end Pi
