/- Laws of layer 8: clauses and models by numbers. -/
import Derived.Test.YtfdkpnckflmcaaaC11c
import Derived.Test.YtfdkpnckflmcaaaC11a
import Derived.Test.YtfdkpnckflmcaaaC09d
set_option linter.unusedSimpArgs false
set_option linter.unusedVariables false
namespace Pi
theorem law08_Vars.a (n : Nat) (hn : n < 256) : Ans ctx law08_Vars.n [.i .u8 n] (.i .i64 (varsB n : Nat)) := by
  refine ans law08_Vars.f ?_
  simp +contextual (disch := omega) [Nat.add_assoc, Int.add_assoc, if_pos, if_neg, -Int.not_lt, -Int.not_le, -Nat.not_lt, -Nat.not_le, -List.length_flatMap, law08_Vars.c, varsB, Int.tmod_eq_emod_of_nonneg]
theorem madeB_len (vars k : Nat) : ∀ l, (madeB vars k l).length ≤ k := by
  induction k with
  | zero => intro l; simp [madeB]
  | succ k ih =>
    intro l
    unfold madeB
    split
    · simp
    · have := ih (l.drop (manyB l + 1)); simp; omega
theorem clauseB_cut {vars : Nat} {r : List Nat} {n : Nat} (hn : n = min (manyB r + 1) r.length) : clauseB vars r = ⟨(r.take (min n (manyB r))).map (atomB vars), (r[manyB r]?.map (atomB vars)).getD ⟨0, 0⟩⟩ := by
  unfold clauseB
  congr 1
  by_cases h : r.length ≤ manyB r
  · rw [List.take_of_length_le h, List.take_of_length_le (by omega)]
  · congr 2
    omega
theorem law08_Made.a (n : Nat) (hn : n < 256) (l : List Nat) (hb : Byt l) (hl : l.length ≤ 9223372036854775807) : Ans ctx law08_Made.n [.i .u8 n, sV cU l] (sV cC (madeC n l)) := by
  refine ans law08_Made.f ?_
  have hv : 1 ≤ varsB n ∧ varsB n ≤ 8 := by unfold varsB; omega
  simp +contextual (disch := omega) [Nat.add_assoc, Int.add_assoc, if_pos, if_neg, -Int.not_lt, -Int.not_le, -Nat.not_lt, -Nat.not_le, -List.length_flatMap, law08_Made.c, ansK (law08_Vars.a n hn)]
  generalize hM : madeC n l = M
  refine while_w (fun k e m x => ∃ (i : Nat) (o : List C), k = l.length - i ∧ e 1 = sV cU l ∧ e 5 = .i .i64 (varsB n : Nat) ∧ e 7 = .i .i64 i ∧ Bn m (e 6) cC 3 o 0 x 1 ∧ o.length ≤ 30 ∧ i ≤ l.length ∧ o ++ madeB (varsB n) (30 - o.length) (l.drop i) = M) l.length ?_ ?_
  · refine ⟨0, [], ?_⟩
    simp +contextual (disch := omega) [Nat.add_assoc, Int.add_assoc, if_pos, if_neg, -Int.not_lt, -Int.not_le, -Nat.not_lt, -Nat.not_le, -List.length_flatMap, Bn.nil]
    simpa [madeC] using hM
  · rintro k e m x ⟨i, o, hk, g1, g2, g3, g4, g5, g6, g7⟩
    by_cases hi : i < l.length
    · by_cases ho : o.length < 30
      · generalize hr : l.drop i = r at g7
        have hrl : r.length = l.length - i := by rw [← hr]; simp
        have hr0 : r ≠ [] := by intro h; rw [h] at hrl; simp at hrl; omega
        have hrg : ∀ j (h : i + j < l.length), l[i + j] = r[j]'(by omega) := by intro j h; simp [← hr]
        have hbr : Byt r := hr ▸ hb.drop i
        have e0 : l[i] = r[0]'(by omega) := hrg 0 hi
        have em : manyB r = 1 + l[i] % 3 := by
          unfold manyB
          rw [e0]
          simp [List.getD_eq_getElem?_getD, (by omega : 0 < r.length)]
        have hm3 : manyB r ≤ 3 := by omega
        have hbi := hb.at hi
        obtain ⟨d, hd⟩ : ∃ d, 30 - o.length = d + 1 := ⟨29 - o.length, by omega⟩
        rw [hd, madeB, if_neg hr0] at g7
        have em' : ((1 : Int) + (l[i] : Int) % 3) = (manyB r : Nat) := by rw [em]; simp
        simp +contextual (disch := omega) [Nat.add_assoc, Int.add_assoc, if_pos, if_neg, -Int.not_lt, -Int.not_le, -Nat.not_lt, -Nat.not_le, -List.length_flatMap, law08_Made.b2, g1, g2, g3, g4.len, hi, Int.tmod_eq_emod_of_nonneg, em']
        generalize hN : min (manyB r + 1) r.length = N
        refine for_w (fun q e m' x' => e 1 = sV cU l ∧ e 5 = .i .i64 (varsB n : Nat) ∧ e 8 = .i .i64 (manyB r : Nat) ∧ e 9 = .p (x + 17) 0 ∧ e 10 = .i .i64 q ∧ e 7 = .i .i64 (i + q : Nat) ∧ Bn m' (e 6) cC 3 o 0 x 1 ∧ x + 18 ≤ x' ∧
          ∃ F T, m' (x + 17) = some (.cells (F :: cA T) false) ∧ Bf m' F cA 2 ((r.take (min q (manyB r))).map (atomB (varsB n))) (x + 18) x' ∧ T = (if q ≤ manyB r then ⟨0, 0⟩ else (r[manyB r]?.map (atomB (varsB n))).getD ⟨0, 0⟩)) N ?_ ?_ ?_
        · simp +contextual (disch := omega) [Nat.add_assoc, Int.add_assoc, if_pos, if_neg, -Int.not_lt, -Int.not_le, -Nat.not_lt, -Nat.not_le, -List.length_flatMap, g1, g2, g3]
          refine ⟨g4.up (by omega) (by simp +contextual (disch := omega) [Nat.add_assoc, Int.add_assoc, if_pos, if_neg, -Int.not_lt, -Int.not_le, -Nat.not_lt, -Nat.not_le, -List.length_flatMap]), V.ns, ⟨rfl, rfl⟩, Bf.nil⟩
        · rintro q e m' x' hq ⟨q1, q2, q3, q4, q5, q6, q7, q8, F, T, q9, q10, q11⟩
          have hiq : i + q < l.length := by omega
          obtain ⟨P, hP⟩ : ∃ P, P = i + q := ⟨_, rfl⟩
          have hrq := hrg q hiq
          have hbq := hb.at hiq
          simp only [← hP] at hiq hrq hbq q6
          have hqm : q ≤ manyB r := by omega
          rw [if_pos hqm] at q11
          subst q11
          have hat : atomB (varsB n) r[q] = ⟨(l[P] : Int) / 4 % (varsB n : Nat), (l[P] : Int) / 32 % 3⟩ := by unfold atomB; rw [← hrq]; simp
          have ev : ((varsB n : Nat) : Int) ≠ 0 := by omega
          by_cases hlt : q < manyB r
          · have et : (r.take (min (q + 1) (manyB r))).map (atomB (varsB n)) = (r.take (min q (manyB r))).map (atomB (varsB n)) ++ [atomB (varsB n) r[q]] := by
              rw [Nat.min_eq_left (by omega), Nat.min_eq_left (by omega), List.take_succ_eq_append_getElem (by omega), List.map_append]; rfl
            simp +contextual (disch := omega) [Nat.add_assoc, Int.add_assoc, if_pos, if_neg, -Int.not_lt, -Int.not_le, -Nat.not_lt, -Nat.not_le, -List.length_flatMap, law08_Made.b1, q1, q2, q3, q4, q5, q6, q9, hiq, Int.tmod_eq_emod_of_nonneg, Int.tdiv_eq_ediv_of_nonneg, ev]
            refine q10.ap [atomB (varsB n) r[q]] (by simp +contextual (disch := omega) [Nat.add_assoc, Int.add_assoc, if_pos, if_neg, -Int.not_lt, -Int.not_le, -Nat.not_lt, -Nat.not_le, -List.length_flatMap]) (by omega) (by omega) (by simp [hat, cA]) rfl (by simp; omega) ?_
            intro F' ws m2 p0 p1 p2 p3
            simp +contextual (disch := omega) [Nat.add_assoc, Int.add_assoc, if_pos, if_neg, -Int.not_lt, -Int.not_le, -Nat.not_lt, -Nat.not_le, -List.length_flatMap, p0, p2, q1, q2, q3, q4, q5, q6, q9, p1.stor, p1.cells]
            refine ⟨by omega, q7.up (Nat.le_refl _) (fun j _ hj => ?_), by omega, ?_⟩
            · have := p2 j (by omega)
              simp +contextual (disch := omega) [Nat.add_assoc, Int.add_assoc, if_pos, if_neg, -Int.not_lt, -Int.not_le, -Nat.not_lt, -Nat.not_le, -List.length_flatMap, this]
            · have := (p1.up (x' := x' + 43) (m' := m2.set (x + 17) (some (.cells (F' :: cA ⟨0, 0⟩) false))) (by omega) (by simp +contextual (disch := omega) [Nat.add_assoc, Int.add_assoc, if_pos, if_neg, -Int.not_lt, -Int.not_le, -Nat.not_lt, -Nat.not_le, -List.length_flatMap])).to et.symm (Nat.le_refl _)
              rw [Nat.min_eq_left (by omega)] at this
              simpa using this
          · have hqe : q = manyB r := by omega
            simp +contextual (disch := omega) [Nat.add_assoc, Int.add_assoc, if_pos, if_neg, -Int.not_lt, -Int.not_le, -Nat.not_lt, -Nat.not_le, -List.length_flatMap, law08_Made.b1, q1, q2, q3, q4, q5, q6, q9, hiq, Int.tmod_eq_emod_of_nonneg, Int.tdiv_eq_ediv_of_nonneg, ev]
            subst hqe
            have hrm : (r[manyB r]?.map (atomB (varsB n))).getD ⟨0, 0⟩ = atomB (varsB n) r[manyB r] := by rw [List.getElem?_eq_getElem (by omega)]; rfl
            have ec : [V.i Go.IntKind.i64 (↑l[P] / 4 % ↑(varsB n)), V.i Go.IntKind.i64 (↑l[P] / 32 % 3)] = cA (atomB (varsB n) r[manyB r]) := by rw [hat]; rfl
            refine ⟨by omega, q7.up (Nat.le_refl _) (by simp +contextual (disch := omega) [Nat.add_assoc, Int.add_assoc, if_pos, if_neg, -Int.not_lt, -Int.not_le, -Nat.not_lt, -Nat.not_le, -List.length_flatMap]), by omega, F, ⟨rfl, ?_⟩, ?_⟩
            · exact ec
            · have := q10.up (x' := x' + 39) (m' := m') (by omega) (fun _ _ _ => rfl)
              have e6 : (r.take (min (manyB r) (manyB r))).map (atomB (varsB n)) = (r.map (atomB (varsB n))).take (manyB r) := by rw [Nat.min_self, List.map_take]
              exact (q10.up (x' := x' + 39) (by omega) (by simp +contextual (disch := omega) [Nat.add_assoc, Int.add_assoc, if_pos, if_neg, -Int.not_lt, -Int.not_le, -Nat.not_lt, -Nat.not_le, -List.length_flatMap])).to e6 (Nat.le_refl _)
        · rintro e m' x' ⟨q1, q2, q3, q4, q5, q6, q7, q8, F, T, q9, q10, q11⟩
          have hcl : (⟨(r.take (min N (manyB r))).map (atomB (varsB n)), T⟩ : C) = clauseB (varsB n) r := by
            rw [clauseB_cut hN.symm, q11]
            congr 1
            split
            · rw [List.getElem?_eq_none (by omega)]; rfl
            · rfl
          have hfin : ∀ (B' : V) (m2 : Sto) (x2 : Nat), Bn m2 B' cC 3 (o ++ [clauseB (varsB n) r]) 0 x2 1 → ∃ j, j < k ∧ ∃ i' o', j = l.length - i' ∧ i + N = i' ∧ Bn m2 B' cC 3 o' 0 x2 1 ∧ o'.length ≤ 30 ∧ i' ≤ l.length ∧ o' ++ madeB (varsB n) (30 - o'.length) (l.drop i') = M := by
            intro B' m2 x2 h
            refine ⟨l.length - (i + N), by omega, i + N, _, rfl, rfl, h, by simp; omega, by omega, ?_⟩
            have e1 : 30 - (o ++ [clauseB (varsB n) r]).length = d := by simp; omega
            have e2 : l.drop (i + N) = r.drop (manyB r + 1) := by
              rw [← List.drop_drop, hr]
              by_cases h : manyB r + 1 ≤ r.length
              · rw [← hN, Nat.min_eq_left h]
              · rw [List.drop_of_length_le (by omega), List.drop_of_length_le (by omega)]
            rw [e1, e2, List.append_assoc]
            exact g7
          obtain ⟨P, hP⟩ : ∃ P, P = i + N := ⟨_, rfl⟩
          rw [← hP] at q6 hfin
          by_cases hN2 : N ≤ manyB r
          all_goals (simp +contextual (disch := omega) [Nat.add_assoc, Int.add_assoc, if_pos, if_neg, -Int.not_lt, -Int.not_le, -Nat.not_lt, -Nat.not_le, -List.length_flatMap, law08_Made.b1, q1, q2, q3, q4, q5, q6, q9])
          all_goals
            refine q7.ap (clauseB (varsB n) r) (by simp +contextual (disch := omega) [Nat.add_assoc, Int.add_assoc, if_pos, if_neg, -Int.not_lt, -Int.not_le, -Nat.not_lt, -Nat.not_le, -List.length_flatMap]) (by omega) (by omega) ?_ (by simp) rfl (by omega) ?_
            · rw [← hcl]
              exact FzAt.cons (q10.at.wide (by omega) (by omega) (by simp +contextual (disch := omega) [Nat.add_assoc, Int.add_assoc, if_pos, if_neg, -Int.not_lt, -Int.not_le, -Nat.not_lt, -Nat.not_le, -List.length_flatMap])) (FzAt.fr (by simp))
            · intro B' ws m2 p0 p1 p2 p3
              simp +contextual (disch := omega) [Nat.add_assoc, Int.add_assoc, if_pos, if_neg, -Int.not_lt, -Int.not_le, -Nat.not_lt, -Nat.not_le, -List.length_flatMap, p0, q1, q2, q6]
              obtain ⟨j, hj, i', o', h1, h2, h3⟩ := hfin B' m2 _ (p1.up (Nat.le_add_right _ 1) (fun _ _ _ => rfl))
              exact ⟨j, hj, i', h1, by omega, o', h3⟩
      · have e1 : 30 - o.length = 0 := by omega
        rw [e1, madeB, List.append_nil] at g7
        obtain ⟨ids, hz⟩ := g4.fz24 (by omega)
        simp +contextual (disch := omega) [Nat.add_assoc, Int.add_assoc, if_pos, if_neg, -Int.not_lt, -Int.not_le, -Nat.not_lt, -Nat.not_le, -List.length_flatMap, law08_Made.b2, g1, g2, g3, g4.len, hi, hz]
        rw [g7]
    · have e1 : l.drop i = [] := List.drop_of_length_le (by omega)
      have e2 : madeB (varsB n) (30 - o.length) [] = [] := by unfold madeB; split <;> simp
      rw [e1, e2, List.append_nil] at g7
      obtain ⟨ids, hz⟩ := g4.fz24 (by omega)
      simp +contextual (disch := omega) [Nat.add_assoc, Int.add_assoc, if_pos, if_neg, -Int.not_lt, -Int.not_le, -Nat.not_lt, -Nat.not_le, -List.length_flatMap, law08_Made.b2, g1, g2, g3, g4.len, hi, hz]
      rw [g7]
end Pi


set_option linter.unusedSimpArgs false
set_option linter.unusedVariables false
namespace Pi
theorem coreL_len (n : Nat) (l : List C) : (coreL n l).length ≤ l.length := by
  unfold coreL
  suffices h : ∀ (is now : List Nat), (is.foldl (stepL n l) now).length ≤ now.length by
    have := h (List.range l.length) (List.range l.length)
    rwa [List.length_range] at this
  intro is
  induction is with
  | nil => intro now; exact Nat.le_refl _
  | cons i is ih =>
    intro now
    refine Nat.le_trans (ih _) ?_
    unfold stepL
    split
    · exact less_len _ _
    · exact Nat.le_refl _
end Pi


set_option linter.unusedSimpArgs false
set_option linter.unusedVariables false
namespace Pi
theorem addV_tu (s : St) (l : List C) (hs : s.Few) : ∃ t a b, addV s l = .tu [.ag (cS t), sV cI a, .i .i64 b] ∧ a.length ≤ 60 ∧ t.Few := by
  unfold addV
  split
  · exact ⟨_, _, _, rfl, by simp, hs⟩
  · rename_i h1
    split
    · exact ⟨_, _, _, rfl, by simp, hs⟩
    · split
      · exact ⟨_, _, _, rfl, by simp, hs⟩
      · rename_i h2 h3
        have c1 : rightS s = true := by simpa using h1
        have hRc : rightC s.vars s.cl = true := by
          unfold rightS at c1
          simp only [Bool.and_eq_true] at c1
          exact c1.1.1
        have hRa := right_app hRc (by simpa using h3) (by omega)
        obtain ⟨r1, r2, r3, r4⟩ := right_ok hRa
        split
        · exact ⟨_, _, _, rfl, by rw [intL_len]; exact Nat.le_trans (coreL_len _ _) r3, hs⟩
        · refine ⟨_, _, _, rfl, by simp, ?_, ?_, ?_, ?_⟩
          · exact ⟨by simp only; omega, fun c hc => Nat.le_trans (okC_six (r4 c hc)) (by omega)⟩
          · simp only; omega
          · have := solveC_len s.vars _ hRa
            simp only; omega
          · exact fun c hc => Nat.le_trans (okC_six (r4 c hc)) (by omega)
theorem followsV_tu (s : St) (a : A) (b : List A) : ∃ x n, followsV s a b = .tu [.b x, .i .i64 n] := by
  unfold followsV
  split
  · exact ⟨_, _, rfl⟩
  · split <;> exact ⟨_, _, rfl⟩
theorem St.Few.same {t : St} (h : t.Few) : Ans ctx ref11_Same.n [.ag (cS t), .ag (cS t)] (.b true) := by
  have := ref11_Same.a t t (by have := h.2.2.1; omega) (by have := h.2.1; omega) h.1.2
  simpa using this
end Pi


set_option linter.unusedSimpArgs false
set_option linter.unusedVariables false
namespace Pi
theorem IfK_no {p a b : Prop} (h : ¬ p) : IfK p a b = b := by simp [IfK, h]
def addT (s : St) (l : List C) : St := if rightS s = false then s else if 60 < s.cl.length + l.length then s else if rightC s.vars l = false then s else if (solveC s.vars.toNat (s.cl ++ l)).2.1 = false then s else ⟨s.vars, s.cl ++ l, (solveC s.vars.toNat (s.cl ++ l)).1⟩
def addW (s : St) (l : List C) : List Int := if rightS s = false then [] else if 60 < s.cl.length + l.length then [] else if rightC s.vars l = false then [] else if (solveC s.vars.toNat (s.cl ++ l)).2.1 = false then intL (coreL s.vars.toNat (s.cl ++ l)) else []
def addE (s : St) (l : List C) : Int := if rightS s = false then 1 else if 60 < s.cl.length + l.length then 2 else if rightC s.vars l = false then 1 else if (solveC s.vars.toNat (s.cl ++ l)).2.1 = false then 30 else 0
theorem addV_eq (s : St) (l : List C) : addV s l = .tu [.ag (cS (addT s l)), sV cI (addW s l), .i .i64 (addE s l)] := by
  unfold addV addT addW addE
  split
  · rfl
  · split
    · rfl
    · split
      · rfl
      · split <;> rfl
theorem ref11_New.w {m : Sto} {x : Nat} {K : CR → Sto → Nat → Prop} (n : Nat) (h1 : 1 ≤ n) (h2 : n ≤ 16)
    (hK : ∀ B m' x', x ≤ x' → (∀ j, j < x → m' j = m j) → Bf m' B cI 1 (noughts n) x x' → K (.ret (.tu [.ag [.i .i64 n, .ns, B], .i .i64 0])) m' x') :
    w ctx (envOf [.i .i64 n]) m x [] none none (RetG ctx ref11_New.c.rs K) ref11_New.c.code := by
  have hlt : ¬ (n : Int) < 1 := by omega
  have hgt : ¬ (16 : Int) < n := by omega
  have hcl : ((noughts n).flatMap cI).length = n := by rw [flatI_len, noughts_len]
  have htk := flatI_all (noughts_len n).symm
  simp +contextual (disch := omega) [Nat.add_assoc, Int.add_assoc, if_pos, if_neg, -Int.not_lt, -Int.not_le, -Nat.not_lt, -Nat.not_le, -List.length_flatMap, ref11_New.c, zeros_noughts, hlt, hgt, hcl, htk]
  refine hK _ _ _ (by omega) (fun j hj => ?_) (.mem (l := noughts n) (cs := (noughts n).flatMap cI) ?_ (by simp) (noughts_len n).symm (by omega) (by omega))
  · simp +contextual (disch := omega) [Nat.add_assoc, Int.add_assoc, if_pos, if_neg, -Int.not_lt, -Int.not_le, -Nat.not_lt, -Nat.not_le, -List.length_flatMap]
  · simp +contextual (disch := omega) [Nat.add_assoc, Int.add_assoc, if_pos, if_neg, -Int.not_lt, -Int.not_le, -Nat.not_lt, -Nat.not_le, -List.length_flatMap]
/-- What Add's second result may be. -/
def Why (W : V) (l : List Int) : Prop := (W = .ns ∧ l = []) ∨ W = sV cI l
set_option maxHeartbeats 1000000 in
theorem ref11_Add.w {m : Sto} {x : Nat} {K : CR → Sto → Nat → Prop} {A : Nat → Prop} {V1 V2 : V} {s : St} {fs : List V} (l : List C) (hi : Ic m V1 s.cl fs x) (hc : Rc A m V1 s.cl fs) (hm : Rl A m cI 1 V2 s.md) (hAx : ∀ j, A j → j < x) (hr : ∀ j ∈ refOf V2, j < x)
    (hs : s.Few) (hl : l.length ≤ 1000000) (hf : ∀ c ∈ l, c.frm.length ≤ 9223372036854775807)
    (hK : ∀ B1 B2 W gs m' x', x ≤ x' → (∀ j, j < x → m' j = m j) → Xc m' B1 (addT s l).cl gs x x' → Bf m' B2 cI 1 (addT s l).md x x' → Sep m' B1 B2 (addT s l).cl gs x' → Why W (addW s l) → K (.ret (.tu [.ag [.i .i64 (addT s l).vars, B1, B2], W, .i .i64 (addE s l)])) m' x') :
    w ctx (envOf [.ag [.i .i64 s.vars, V1, V2], sV cC l]) m x [] none none (RetG ctx ref11_Add.c.rs K) ref11_Add.c.code := by
  have hR := ref11_Right.a s hs.1
  obtain ⟨hok, z1, z2, z3⟩ := hs
  have hR' : Ans ctx ref11_Right.n [.ag [.i .i64 s.vars, sV cC s.cl, sV cI s.md]] (.b (rightS s)) := hR
  have hfo : ctx.frz ref11_own.n = false := rfl
  have hcat : ∀ c ∈ s.cl ++ l, c.frm.length ≤ 9223372036854775807 := fun c hc => by
    rcases List.mem_append.1 hc with hc | hc
    · exact hok.2 c hc
    · exact hf c hc
  obtain ⟨M0, hM0⟩ : ∃ M0 : Sto, M0 = (m.set x (some (.cells [.i .i64 s.vars, V1, V2] false))).set (x + 1) (some (.cells [.i .i64 0, .ns, .ns] false)) := ⟨_, rfl⟩
  have hMj : ∀ j, j < x → M0 j = m j := fun j hj => by rw [hM0, Sto.sne _ _ _ _ (by omega), Sto.sne _ _ _ _ (by omega)]
  have hMx : M0 x = some (.cells [.i .i64 s.vars, V1, V2] false) := by rw [hM0]; simp +contextual (disch := omega) [Nat.add_assoc, Int.add_assoc, if_pos, if_neg, -Int.not_lt, -Int.not_le, -Nat.not_lt, -Nat.not_le, -List.length_flatMap]
  have hM1 : M0 (x + 1) = some (.cells [.i .i64 0, .ns, .ns] false) := by rw [hM0]; simp +contextual (disch := omega) [Nat.add_assoc, Int.add_assoc, if_pos, if_neg, -Int.not_lt, -Int.not_le, -Nat.not_lt, -Nat.not_le, -List.length_flatMap]
  have hAg : Ag A m M0 := .eq fun j hj => hMj j (hAx j hj)
  obtain ⟨_, y1, _⟩ := (hc.up hAg (fun _ h => h)).fz24
  obtain ⟨_, y2, _⟩ := (hm.up hAg).fz24
  have hlen := hc.len
  have hiM : Ic M0 V1 s.cl fs x := hi.up hMj (Nat.le_refl _)
  have hfM : Fr A M0 fs s.cl := hc.fr.up hAg (fun _ h => h)
  have hmM : Rl A M0 cI 1 V2 s.md := hm.up hAg
  simp +contextual (disch := omega) [Nat.add_assoc, Int.add_assoc, if_pos, if_neg, -Int.not_lt, -Int.not_le, -Nat.not_lt, -Nat.not_le, -List.length_flatMap, ref11_Add.c, hM0.symm, hMx, hM1, y1, y2, ansK hR', hlen]
  by_cases c1 : rightS s = false
  · rw [IfK_pos c1, CallX_op (by rfl)]
    refine openg_w rfl rfl (.inl rfl) ?_
    rw [hfo]
    refine ref11_own.w (hiM.up (fun _ _ => rfl) (by omega)) hfM hmM (fun j h => by have := hAx j h; omega) (fun j h => by have := hr j h; omega) z1 z2 z3 ?_
    intro E1 E2 gs' m5 x5 hx5 hm5 hX5 hB5 hS5
    have e1 : m5 (x + 1) = some (.cells [.i .i64 0, .ns, .ns] false) := by rw [hm5 (x + 1) (by omega), hM1]
    simp +contextual (disch := omega) [Nat.add_assoc, Int.add_assoc, if_pos, if_neg, -Int.not_lt, -Int.not_le, -Nat.not_lt, -Nat.not_le, -List.length_flatMap, e1]
    have hT : addT s l = s := by simp only [addT, if_pos c1]
    have hE : addE s l = 1 := by simp only [addE, if_pos c1]
    have hW : addW s l = [] := by simp only [addW, if_pos c1]
    rw [hT, hE, hW] at hK
    refine hK _ _ _ gs' _ _ (by omega) (fun j hj => by rw [Sto.sne _ _ _ _ (by omega), hm5 j (by omega), hMj j hj]) ?_ ?_ (hS5.up hB5 (by omega) (fun j h1 h2 => by rw [Sto.sne _ _ _ _ (by omega)])) (.inl ⟨rfl, rfl⟩)
    · exact hX5.up (by omega) (by omega) (fun j h1 h2 => by rw [Sto.sne _ _ _ _ (by omega)])
    · refine Bf.low (Bf.up hB5 ?_ ?_) ?_
      · omega
      · intro j h1 h2; rw [Sto.sne _ _ _ _ (by omega)]
      · omega
  rw [IfK_no c1]
  have c1' : rightS s = true := by simpa using c1
  have hRc : rightC s.vars s.cl = true := by
    unfold rightS at c1'
    simp only [Bool.and_eq_true] at c1'
    exact c1'.1.1
  by_cases c2 : 60 < s.cl.length + l.length
  · simp +contextual (disch := omega) [Nat.add_assoc, Int.add_assoc, if_pos, if_neg, -Int.not_lt, -Int.not_le, -Nat.not_lt, -Nat.not_le, -List.length_flatMap, hMx, hM1, hlen]
    rw [IfK_pos (by omega), CallX_op (by rfl)]
    refine openg_w rfl rfl (.inl rfl) ?_
    rw [hfo]
    refine ref11_own.w (hiM.up (fun _ _ => rfl) (by omega)) hfM hmM (fun j h => by have := hAx j h; omega) (fun j h => by have := hr j h; omega) z1 z2 z3 ?_
    intro E1 E2 gs' m5 x5 hx5 hm5 hX5 hB5 hS5
    have e1 : m5 (x + 1) = some (.cells [.i .i64 0, .ns, .ns] false) := by rw [hm5 (x + 1) (by omega), hM1]
    simp +contextual (disch := omega) [Nat.add_assoc, Int.add_assoc, if_pos, if_neg, -Int.not_lt, -Int.not_le, -Nat.not_lt, -Nat.not_le, -List.length_flatMap, e1]
    have hT : addT s l = s := by simp only [addT, if_neg c1, if_pos c2]
    have hE : addE s l = 2 := by simp only [addE, if_neg c1, if_pos c2]
    have hW : addW s l = [] := by simp only [addW, if_neg c1, if_pos c2]
    rw [hT, hE, hW] at hK
    refine hK _ _ _ gs' _ _ (by omega) (fun j hj => by rw [Sto.sne _ _ _ _ (by omega), hm5 j (by omega), hMj j hj]) ?_ ?_ (hS5.up hB5 (by omega) (fun j h1 h2 => by rw [Sto.sne _ _ _ _ (by omega)])) (.inl ⟨rfl, rfl⟩)
    · exact hX5.up (by omega) (by omega) (fun j h1 h2 => by rw [Sto.sne _ _ _ _ (by omega)])
    · refine Bf.low (Bf.up hB5 ?_ ?_) ?_
      · omega
      · intro j h1 h2; rw [Sto.sne _ _ _ _ (by omega)]
      · omega
  simp +contextual (disch := omega) [Nat.add_assoc, Int.add_assoc, if_pos, if_neg, -Int.not_lt, -Int.not_le, -Nat.not_lt, -Nat.not_le, -List.length_flatMap, hMx, hM1, hlen]
  rw [IfK_no (by omega), CallX_op (by rfl)]
  refine openg_w rfl rfl (.inl rfl) ?_
  rw [hfo]
  refine ref11_own.w (hiM.up (fun _ _ => rfl) (by omega)) hfM hmM (fun j h => by have := hAx j h; omega) (fun j h => by have := hr j h; omega) z1 z2 z3 ?_
  intro B1 B2 gs m1 x1 hx1 hm1 hX1 hB1 _
  have e0 : m1 x = some (.cells [.i .i64 s.vars, V1, V2] false) := by rw [hm1 x (by omega), hMx]
  have e1 : m1 (x + 1) = some (.cells [.i .i64 0, .ns, .ns] false) := by rw [hm1 (x + 1) (by omega), hM1]
  simp +contextual (disch := omega) [Nat.add_assoc, Int.add_assoc, if_pos, if_neg, -Int.not_lt, -Int.not_le, -Nat.not_lt, -Nat.not_le, -List.length_flatMap, e0, e1, -apV_ns]
  have hA1 : Xa (fun j => x + 14 ≤ j ∧ j < x1) ((m1.set x1 (some (.cells [.i .i64 0, .ns, .ns] false))).set x1 (some (.cells [.i .i64 s.vars, B1, B2] false))) B1 s.cl gs :=
    hX1.xa.up (fun j h => by rw [Sto.sne _ _ _ _ (by omega), Sto.sne _ _ _ _ (by omega)]) (fun j h => h)
  refine hA1.ap (G := fun _ => False) (trips_sv l).symm rfl (Fr.sv _ _ l) (fun _ _ h => h) (by omega) (fun h => h) (by omega) ?_
  intro B ws m2 r1 r2 r3
  have r4 : ∀ j, j < x + 14 → m2 j = m1 j := fun j hj => by rw [r3 j (by omega) (by omega), Sto.sne _ _ _ _ (by omega), Sto.sne _ _ _ _ (by omega)]
  have q0 : m2 x = some (.cells [.i .i64 s.vars, V1, V2] false) := by rw [r4 x (by omega), e0]
  have q1 : m2 (x + 1) = some (.cells [.i .i64 0, .ns, .ns] false) := by rw [r4 (x + 1) (by omega), e1]
  have qA : ∀ j, j < x → m2 j = m j := fun j hj => by rw [r4 j (by omega), hm1 j (by omega), hMj j hj]
  have qx : m2 x1 = some (.cells [.i .i64 s.vars, B1, B2] false) := by rw [r3 x1 (by omega) (by omega), Sto.seq]
  have hnx : ∀ j, ((x + 14 ≤ j ∧ j < x1) ∨ False ∨ j = x1 + 5) → j ≠ x1 := fun j h => by have h := or3 h; omega
  have r2' := r2.up (m' := m2.set x1 (some (.cells [.i .i64 s.vars, B, B2] false))) (fun j h => by rw [Sto.sne _ _ _ _ (hnx j h)]) (fun _ h => h)
  obtain ⟨ids, hz, hid⟩ := r2'.rc.fz24
  have hin : ∀ j, j < x + 14 ∨ j = x1 → j ∉ ids := fun j hj h => by
    rcases hid j h with h | h | h
    · omega
    · exact h
    · omega
  have aj : ∀ u j, j < x + 14 → aft u (m2.set x1 (some (.cells [.i .i64 s.vars, B, B2] false))) ids j = m2 j := fun u j hj => by rw [aft_none _ _ _ _ (hin j (by omega)), Sto.sne _ _ _ _ (by omega)]
  have a0 : ∀ u, aft u (m2.set x1 (some (.cells [.i .i64 s.vars, B, B2] false))) ids x = some (.cells [.i .i64 s.vars, V1, V2] false) := fun u => by rw [aj u x (by omega), q0]
  have a1 : ∀ u, aft u (m2.set x1 (some (.cells [.i .i64 s.vars, B, B2] false))) ids (x + 1) = some (.cells [.i .i64 0, .ns, .ns] false) := fun u => by rw [aj u (x + 1) (by omega), q1]
  have ax : ∀ u, aft u (m2.set x1 (some (.cells [.i .i64 s.vars, B, B2] false))) ids x1 = some (.cells [.i .i64 s.vars, B, B2] false) := fun u => by rw [aft_none _ _ _ _ (hin x1 (by omega)), Sto.seq]
  have hS := ref09_Solve.a s.vars (s.cl ++ l) (by simp; omega) hcat
  by_cases c3 : rightC s.vars l = false
  · rw [solveV, if_neg (by rw [right_app_not c3 hRc (by omega)]; simp)] at hS
    simp +contextual (disch := omega) [Nat.add_assoc, Int.add_assoc, if_pos, if_neg, -Int.not_lt, -Int.not_le, -Nat.not_lt, -Nat.not_le, -List.length_flatMap, r1, qx, q0, r2.rc.stor, r2.rc.cells, hz, ansK hS, a0, a1, ax]
    rw [CallX_op (by rfl)]
    refine openg_w rfl rfl (.inl rfl) ?_
    rw [hfo]
    refine ref11_own.w (hi.up (fun j hj => (aj _ j (by omega)).trans (qA j hj)) (by omega)) (hc.fr.up (.eq fun j hj => (aj _ j (by have := hAx j hj; omega)).trans (qA j (hAx j hj))) (fun _ h => h)) (hm.up (.eq fun j hj => (aj _ j (by have := hAx j hj; omega)).trans (qA j (hAx j hj)))) (fun j h => by have := hAx j h; omega) (fun j h => by have := hr j h; omega) z1 z2 z3 ?_
    intro E1 E2 gs' m5 x5 hx5 hm5 hX5 hB5 hS5
    have e5 : m5 (x + 1) = some (.cells [.i .i64 0, .ns, .ns] false) := by rw [hm5 (x + 1) (by omega)]; exact a1 _
    simp +contextual (disch := omega) [Nat.add_assoc, Int.add_assoc, if_pos, if_neg, -Int.not_lt, -Int.not_le, -Nat.not_lt, -Nat.not_le, -List.length_flatMap, e5]
    have hT : addT s l = s := by simp only [addT, if_neg c1, if_neg c2, if_pos c3]
    have hE : addE s l = 1 := by simp only [addE, if_neg c1, if_neg c2, if_pos c3]
    have hW : addW s l = [] := by simp only [addW, if_neg c1, if_neg c2, if_pos c3]
    rw [hT, hE, hW] at hK
    refine hK _ _ _ gs' _ _ (by omega) (fun j hj => by rw [Sto.sne _ _ _ _ (by omega), hm5 j (by omega), aj _ j (by omega), qA j hj]) ?_ ?_ (hS5.up hB5 (by omega) (fun j h1 h2 => by rw [Sto.sne _ _ _ _ (by omega)])) (.inl ⟨rfl, rfl⟩)
    · exact hX5.up (by omega) (by omega) (fun j h1 h2 => by rw [Sto.sne _ _ _ _ (by omega)])
    · refine Bf.low (Bf.up hB5 ?_ ?_) ?_
      · omega
      · intro j h1 h2; rw [Sto.sne _ _ _ _ (by omega)]
      · omega
  have hRa := right_app hRc (by simpa using c3) (by omega)
  rw [solveV, if_pos hRa] at hS
  by_cases c4 : (solveC s.vars.toNat (s.cl ++ l)).2.1 = false
  · rw [c4] at hS
    have hC := ref10_Core.a s.vars (s.cl ++ l) (by simp; omega) hcat
    have hlost : lostC s.vars.toNat (s.cl ++ l) = true := by unfold lostC; rw [c4]; rfl
    rw [coreV, if_pos hRa, if_pos hlost] at hC
    have bj : ∀ u v j, j < x + 14 → aft v (aft u (m2.set x1 (some (.cells [.i .i64 s.vars, B, B2] false))) ids) ids j = m2 j := fun u v j hj => by rw [aft_none _ _ _ _ (hin j (by omega)), aj u j hj]
    have b0 : ∀ u v, aft v (aft u (m2.set x1 (some (.cells [.i .i64 s.vars, B, B2] false))) ids) ids x = some (.cells [.i .i64 s.vars, V1, V2] false) := fun u v => by rw [bj u v x (by omega), q0]
    have b1 : ∀ u v, aft v (aft u (m2.set x1 (some (.cells [.i .i64 s.vars, B, B2] false))) ids) ids (x + 1) = some (.cells [.i .i64 0, .ns, .ns] false) := fun u v => by rw [bj u v (x + 1) (by omega), q1]
    simp +contextual (disch := omega) [Nat.add_assoc, Int.add_assoc, if_pos, if_neg, -Int.not_lt, -Int.not_le, -Nat.not_lt, -Nat.not_le, -List.length_flatMap, r1, qx, q0, r2.rc.stor, r2.rc.cells, hz, ansK hS, a0, a1, ax, ansK hC, b0, b1]
    rw [CallX_op (by rfl)]
    refine openg_w rfl rfl (.inl rfl) ?_
    rw [hfo]
    refine ref11_own.w (hi.up (fun j hj => (bj _ _ j (by omega)).trans (qA j hj)) (by omega)) (hc.fr.up (.eq fun j hj => (bj _ _ j (by have := hAx j hj; omega)).trans (qA j (hAx j hj))) (fun _ h => h)) (hm.up (.eq fun j hj => (bj _ _ j (by have := hAx j hj; omega)).trans (qA j (hAx j hj)))) (fun j h => by have := hAx j h; omega) (fun j h => by have := hr j h; omega) z1 z2 z3 ?_
    intro E1 E2 gs' m5 x5 hx5 hm5 hX5 hB5 hS5
    have e5 : m5 (x + 1) = some (.cells [.i .i64 0, .ns, .ns] false) := by rw [hm5 (x + 1) (by omega)]; exact b1 _ _
    simp +contextual (disch := omega) [Nat.add_assoc, Int.add_assoc, if_pos, if_neg, -Int.not_lt, -Int.not_le, -Nat.not_lt, -Nat.not_le, -List.length_flatMap, e5]
    have c3' : ¬ rightC s.vars l = false := c3
    have hT : addT s l = s := by simp only [addT, if_neg c1, if_neg c2, if_neg c3', if_pos c4]
    have hE : addE s l = 30 := by simp only [addE, if_neg c1, if_neg c2, if_neg c3', if_pos c4]
    have hW : addW s l = intL (coreL s.vars.toNat (s.cl ++ l)) := by simp only [addW, if_neg c1, if_neg c2, if_neg c3', if_pos c4]
    rw [hT, hE, hW] at hK
    refine hK _ _ _ gs' _ _ (by omega) (fun j hj => by rw [Sto.sne _ _ _ _ (by omega), hm5 j (by omega), bj _ _ j (by omega), qA j hj]) ?_ ?_ (hS5.up hB5 (by omega) (fun j h1 h2 => by rw [Sto.sne _ _ _ _ (by omega)])) (.inr rfl)
    · exact hX5.up (by omega) (by omega) (fun j h1 h2 => by rw [Sto.sne _ _ _ _ (by omega)])
    · refine Bf.low (Bf.up hB5 ?_ ?_) ?_
      · omega
      · intro j h1 h2; rw [Sto.sne _ _ _ _ (by omega)]
      · omega
  · have c4' : (solveC s.vars.toNat (s.cl ++ l)).2.1 = true := by simpa using c4
    rw [c4'] at hS
    simp +contextual (disch := omega) [Nat.add_assoc, Int.add_assoc, if_pos, if_neg, -Int.not_lt, -Int.not_le, -Nat.not_lt, -Nat.not_le, -List.length_flatMap, r1, qx, q0, r2.rc.stor, r2.rc.cells, hz, ansK hS, a0, a1, ax]
    have hag : Ag (fun j => (x + 14 ≤ j ∧ j < x1) ∨ False ∨ j = x1 + 5) (m2.set x1 (some (.cells [.i .i64 s.vars, B, B2] false))) ((aft (.tu [sV cI (solveC s.vars.toNat (s.cl ++ l)).1, .b true, .i .i64 (solveC s.vars.toNat (s.cl ++ l)).2.2, .i .i64 0])
      (m2.set x1 (some (.cells [.i .i64 s.vars, B, B2] false))) ids).set x1 (some (.cells [.i .i64 s.vars, B, sV cI (solveC s.vars.toNat (s.cl ++ l)).1] false))) := fun j hj => by rw [Sto.sne _ _ _ _ (hnx j hj), bare_aft]
    rw [CallX_op (by rfl)]
    refine openg_w rfl rfl (.inl rfl) ?_
    rw [hfo]
    refine ref11_own.w (s := ⟨s.vars, s.cl ++ l, (solveC s.vars.toNat (s.cl ++ l)).1⟩) (r2'.ic _ ids (fun j hj => Sto.sne _ _ _ _ (hnx j hj)) (fun j h => by have h := or3 h; omega)) (r2'.rc.fr.up hag (fun j h => h)) (Rl.sV (fun j => (x + 14 ≤ j ∧ j < x1) ∨ False ∨ j = x1 + 5) _ _) (fun j h => by have h := or3 h; omega) (by simp) (by simp; omega) (by have := solveC_len s.vars (s.cl ++ l) hRa; simp only; omega) (fun c hc => Nat.le_trans (okC_six ((right_ok hRa).2.2.2 c hc)) (by omega)) ?_
    intro E1 E2 gs' m5 x5 hx5 hm5 hX5 hB5 hS5
    have e5 : m5 (x + 1) = some (.cells [.i .i64 0, .ns, .ns] false) := by rw [hm5 (x + 1) (by omega), Sto.sne _ _ _ _ (by omega)]; exact a1 _
    simp +contextual (disch := omega) [Nat.add_assoc, Int.add_assoc, if_pos, if_neg, -Int.not_lt, -Int.not_le, -Nat.not_lt, -Nat.not_le, -List.length_flatMap, e5]
    have c3' : ¬ rightC s.vars l = false := c3
    have hT : addT s l = ⟨s.vars, s.cl ++ l, (solveC s.vars.toNat (s.cl ++ l)).1⟩ := by simp only [addT, if_neg c1, if_neg c2, if_neg c3', if_neg c4]
    have hE : addE s l = 0 := by simp only [addE, if_neg c1, if_neg c2, if_neg c3', if_neg c4]
    have hW : addW s l = [] := by simp only [addW, if_neg c1, if_neg c2, if_neg c3', if_neg c4]
    rw [hT, hE, hW] at hK
    refine hK _ _ _ gs' _ _ (by omega) (fun j hj => by rw [Sto.sne _ _ _ _ (by omega), hm5 j (by omega), Sto.sne _ _ _ _ (by omega), aj _ j (by omega), qA j hj]) ?_ ?_ (hS5.up hB5 (by omega) (fun j h1 h2 => by rw [Sto.sne _ _ _ _ (by omega)])) (.inl ⟨rfl, rfl⟩)
    · exact hX5.up (by omega) (by omega) (fun j h1 h2 => by rw [Sto.sne _ _ _ _ (by omega)])
    · refine Bf.low (Bf.up hB5 ?_ ?_) ?_
      · omega
      · intro j h1 h2; rw [Sto.sne _ _ _ _ (by omega)]
      · omega
end Pi


set_option linter.unusedSimpArgs false
set_option linter.unusedVariables false
namespace Pi
theorem made_ok (n : Nat) (l : List Nat) : ∀ c ∈ madeC n l, okC (varsB n) c = true := (right_ok (madeC_right n l)).2.2.2
theorem made_len (n : Nat) (l : List Nat) : (madeC n l).length ≤ 30 := madeB_len _ _ _
theorem varsB_bd (n : Nat) : 1 ≤ varsB n ∧ varsB n ≤ 8 := by unfold varsB; omega
end Pi


set_option linter.unusedSimpArgs false
set_option linter.unusedVariables false
namespace Pi
/-- A store with more clauses, where these have a model. -/
def addS (s : St) (l : List C) : St := if (solveC s.vars.toNat (s.cl ++ l)).2.1 = true then ⟨s.vars, s.cl ++ l, (solveC s.vars.toNat (s.cl ++ l)).1⟩ else s
def emptyS (vars : Nat) : St := ⟨vars, [], noughts vars⟩
def madeSt (n : Nat) (l : List Nat) : St := ((madeC n l).take 15).foldl (fun s c => addS s [c]) (emptyS (varsB n))
/-- A store that is right, of so many variables, and of so many clauses at most. -/
structure Gd (v k : Nat) (s : St) : Prop where
  vars : s.vars = v
  len : s.cl.length ≤ k
  right : rightS s = true
theorem Gd.cl {v k : Nat} {s : St} (h : Gd v k s) : rightC v s.cl = true := by
  have := h.right
  unfold rightS at this
  simp only [Bool.and_eq_true] at this
  rw [h.vars] at this
  exact this.1.1
theorem Gd.sol {v k : Nat} {s : St} (h : Gd v k s) : (solveC v s.cl).2.1 = true ∧ (solveC v s.cl).1 = s.md := by
  have := h.right
  unfold rightS at this
  simp only [Bool.and_eq_true, decide_eq_true_eq] at this
  rw [h.vars] at this
  exact ⟨this.1.2, this.2⟩
theorem Gd.few {v k : Nat} {s : St} (h : Gd v k s) : s.Few := by
  obtain ⟨r1, r2, r3, r4⟩ := right_ok h.cl
  have := solveC_len v s.cl h.cl
  rw [Int.toNat_natCast, h.sol.2] at this
  exact ⟨⟨by omega, fun c hc => Nat.le_trans (okC_six (r4 c hc)) (by omega)⟩, by omega, by omega, fun c hc => Nat.le_trans (okC_six (r4 c hc)) (by omega)⟩
theorem Gd.up {v k k' : Nat} {s : St} (h : Gd v k s) (hk : k ≤ k') : Gd v k' s := ⟨h.vars, by have := h.len; omega, h.right⟩
theorem solve_nil {v : Nat} (hv : 0 < v) : (solveC v []).2.1 = true ∧ (solveC v []).1 = noughts v := by
  rcases solve_spec (n := v) (l := []) hv (by simp) with ⟨h1, h2, _⟩ | ⟨_, _, h2⟩
  · exact ⟨h1, h2.unique (l := []) (l' := []) ⟨rfl, fun i => Int.le_refl _, (by simp [holdsC]), fun M _ h _ => h⟩ (fun _ => Iff.rfl)⟩
  · exact (h2 (noughts v) (noughts_len v) (fun i => by rw [noughts_at]; omega) (fun c hc => by cases hc)).elim
theorem Gd.empty {v : Nat} (h1 : 1 ≤ v) (h2 : v ≤ 16) : Gd v 0 (emptyS v) := by
  have h := solve_nil (v := v) (by omega)
  refine ⟨rfl, Nat.le_refl _, ?_⟩
  simp only [rightS, emptyS, Int.toNat_natCast, h.1, h.2, decide_true, Bool.and_true]
  simp [rightC]
  omega
theorem Gd.add {v k : Nat} {s : St} (h : Gd v k s) {l : List C} (hl : rightC v l = true) (hk : k + l.length ≤ 60) : Gd v (k + l.length) (addS s l) := by
  unfold addS
  rw [h.vars, Int.toNat_natCast]
  split
  · rename_i hs
    have hR := right_app h.cl hl (by have := h.len; omega)
    refine ⟨rfl, by have := h.len; simp only [List.length_append]; omega, ?_⟩
    simp [rightS, hR, hs]
  · exact h.up (by omega)
theorem one_right {v : Nat} {c : C} (h1 : 1 ≤ v) (h2 : v ≤ 16) (hc : okC v c = true) : rightC v [c] = true := by
  simp [rightC, hc]
  omega
theorem madeSt_step (n : Nat) (l : List Nat) (i : Nat) (hi : i < ((madeC n l).take 15).length) :
    (((madeC n l).take 15).take (i + 1)).foldl (fun s c => addS s [c]) (emptyS (varsB n)) = addS ((((madeC n l).take 15).take i).foldl (fun s c => addS s [c]) (emptyS (varsB n))) [((madeC n l).take 15)[i]] := by
  rw [List.take_succ_eq_append_getElem hi, List.foldl_append]; rfl
theorem madeSt_gd (n : Nat) (l : List Nat) : ∀ i, i ≤ ((madeC n l).take 15).length → Gd (varsB n) i ((((madeC n l).take 15).take i).foldl (fun s c => addS s [c]) (emptyS (varsB n))) := by
  have hv := varsB_bd n
  intro i
  induction i with
  | zero => intro _; exact Gd.empty (by omega) (by omega)
  | succ i ih =>
    intro hi
    rw [madeSt_step n l i (by omega)]
    have hl : ((madeC n l).take 15).length ≤ 15 := by rw [List.length_take]; omega
    refine (ih (by omega)).add (l := [((madeC n l).take 15)[i]]) (one_right (by omega) (by omega) (made_ok n l _ (List.mem_of_mem_take (List.getElem_mem _)))) (by simp; omega)
theorem madeSt_Gd (n : Nat) (l : List Nat) : Gd (varsB n) 15 (madeSt n l) := by
  have := madeSt_gd n l _ (Nat.le_refl _)
  rw [List.take_length] at this
  exact this.up (by rw [List.length_take]; omega)
end Pi


set_option linter.unusedSimpArgs false
set_option linter.unusedVariables false
namespace Pi
theorem addT_few (s : St) (l : List C) (hs : s.Few) : (addT s l).Few ∧ (addW s l).length ≤ 60 := by
  obtain ⟨t, a, b, h, h2, h3⟩ := addV_tu s l hs
  unfold addT addW
  unfold addV at h
  split
  · exact ⟨hs, by simp⟩
  · rename_i h1
    split
    · exact ⟨hs, by simp⟩
    · split
      · exact ⟨hs, by simp⟩
      · rename_i h2 h3
        have c1 : rightS s = true := by simpa using h1
        have hRc : rightC s.vars s.cl = true := by
          unfold rightS at c1
          simp only [Bool.and_eq_true] at c1
          exact c1.1.1
        have hRa := right_app hRc (by simpa using h3) (by omega)
        obtain ⟨r1, r2, r3, r4⟩ := right_ok hRa
        split
        · exact ⟨hs, by rw [intL_len]; exact Nat.le_trans (coreL_len _ _) r3⟩
        · refine ⟨⟨⟨by simp only; omega, fun c hc => Nat.le_trans (okC_six (r4 c hc)) (by omega)⟩, ?_, ?_, fun c hc => Nat.le_trans (okC_six (r4 c hc)) (by omega)⟩, by simp⟩
          · simp only; omega
          · have := solveC_len s.vars _ hRa
            simp only; omega
set_option maxRecDepth 20000 in
set_option maxHeartbeats 1000000 in
theorem law11_told.b (s : St) (l : List C) (a : A) (b : List A) (hs : s.Few) (hl : l.length ≤ 1000000) (hf : ∀ c ∈ l, c.frm.length ≤ 9223372036854775807) (hb : b.length ≤ 1000000) : Ans ctx law11_told.n [.ag (cS s), sV cC l, .ag (cA a), sV cA b] (.b true) := by
  obtain ⟨vs, hvs⟩ : ∃ vs, vs = [V.ag (cS s), sV cC l, V.ag (cA a), sV cA b] := ⟨_, rfl⟩
  rw [← hvs]
  refine ans law11_told.f ?_
  obtain ⟨is, k, e2⟩ := followsV_tu s a b
  have h1 := store_Add.a s l hs hl hf
  have h3 := store_Follows.a s a b hs hb
  have h4 := ref11_Follows.a s a b hs hb
  rw [addV_eq] at h1
  rw [e2] at h3 h4
  obtain ⟨ht, hd⟩ := addT_few s l hs
  have hSm := ht.same
  have hIn := ref08_Ints.a (addW s l) (addW s l) (by omega)
  simp +contextual (disch := omega) [Nat.add_assoc, Int.add_assoc, if_pos, if_neg, -Int.not_lt, -Int.not_le, -Nat.not_lt, -Nat.not_le, -List.length_flatMap, hvs, law11_told.c, ansK h1]
  rw [CallX_op (by rfl)]
  refine openg_w rfl rfl (.inl rfl) ?_
  have hfo : ctx.frz ref11_Add.n = false := rfl
  rw [hfo]
  refine ref11_Add.w (s := s) (A := fun _ => False) (V1 := sV cC s.cl) (V2 := sV cI s.md) l (.inl ⟨rfl, rfl⟩) (Rc.sV _ _ s.cl) (Rl.sV _ _ s.md) (fun j h => h.elim) (by simp) hs hl hf ?_
  intro B1 B2 W gs m5 x5 hx5 hm5 hX5 hB5 _ hW
  have e0 : m5 0 = some (.cells (cS s) false) := by rw [hm5 0 (by omega)]; simp +contextual (disch := omega) [Nat.add_assoc, Int.add_assoc, if_pos, if_neg, -Int.not_lt, -Int.not_le, -Nat.not_lt, -Nat.not_le, -List.length_flatMap]
  have e1 : m5 1 = some (.cells (cA a) false) := by rw [hm5 1 (by omega)]; simp +contextual (disch := omega) [Nat.add_assoc, Int.add_assoc, if_pos, if_neg, -Int.not_lt, -Int.not_le, -Nat.not_lt, -Nat.not_le, -List.length_flatMap]
  have e9 : m5 9 = some (.cells (cS (addT s l)) false) := by rw [hm5 9 (by omega)]; simp +contextual (disch := omega) [Nat.add_assoc, Int.add_assoc, if_pos, if_neg, -Int.not_lt, -Int.not_le, -Nat.not_lt, -Nat.not_le, -List.length_flatMap]
  have hWs : W.stor = true ∧ W.cells = [W] := by rcases hW with ⟨rfl, _⟩ | rfl <;> exact ⟨rfl, rfl⟩
  simp +contextual (disch := omega) [Nat.add_assoc, Int.add_assoc, if_pos, if_neg, -Int.not_lt, -Int.not_le, -Nat.not_lt, -Nat.not_le, -List.length_flatMap, e0, e1, e9, hWs.1, hWs.2, ansK h3, ansK h4, ansK (store_Right.a s hs.1), ansK (ref11_Right.a s hs.1)]
  generalize hM : Sto.set (Sto.set m5 (x5 + 4) _) (x5 + 4) _ = M
  have hMj : ∀ j, j < x5 → M j = m5 j := fun j hj => by rw [← hM, Sto.sne _ _ _ _ (by omega), Sto.sne _ _ _ _ (by omega)]
  obtain ⟨i8, f8, _⟩ := (hX5.up (m' := M) (Nat.le_refl _) (Nat.le_refl _) (fun j h1 h2 => hMj j h2)).rc.fz24
  have f9 := (hB5.up (m' := M) (Nat.le_refl _) (fun j h1 h2 => hMj j h2)).fz24
  have fW : ∃ ids, frzW (der M 24) W = some (sV cI (addW s l), ids) := by
    rcases hW with ⟨rfl, h⟩ | rfl
    · rw [h]; exact ⟨_, frzW_ns _⟩
    · exact ⟨[], by simp [sV]⟩
  obtain ⟨i7, f7⟩ := fW
  have hSm' : Ans ctx ref11_Same.n [.ag (cS (addT s l)), .ag [.i .i64 (addT s l).vars, sV cC (addT s l).cl, sV cI (addT s l).md]] (.b true) := hSm
  simp +contextual (disch := omega) [Nat.add_assoc, Int.add_assoc, if_pos, if_neg, -Int.not_lt, -Int.not_le, -Nat.not_lt, -Nat.not_le, -List.length_flatMap, f8, f9, f7, ansK hSm', ansK hIn]
theorem Gd.addT {v k : Nat} {s : St} (h : Gd v k s) {l : List C} (hl : rightC v l = true) (hk : k + l.length ≤ 60) : addT s l = addS s l := by
  have hlen := h.len
  unfold Pi.addT addS
  rw [h.right, if_neg (by simp), if_neg (by omega), h.vars, hl, if_neg (by simp), Int.toNat_natCast]
  cases hs : (solveC v (s.cl ++ l)).2.1 <;> simp
theorem Bf.ref {α : Type} {f : α → List V} {k : Nat} {m : Sto} {B : V} {l : List α} {lo x : Nat} (h : Bf m B f k l lo x) : ∀ j ∈ refOf B, j < x := by
  rcases h with ⟨rfl, rfl⟩ | ⟨a, cs, rfl, h2, hR, h3, h4⟩
  · intro j hj; cases hj
  · intro j hj; rw [List.mem_singleton.1 hj]; exact h4
theorem Xc.ic {m : Sto} {B : V} {cl : List C} {fs : List V} {lo x : Nat} (h : Xc m B cl fs lo x) : Ic m B cl fs x := by
  rcases h with ⟨h1, h2, h3⟩ | ⟨a, h1, h2, h3, h4, h5⟩
  · exact .inr (.inl ⟨h1, h2, h3⟩)
  · exact .inr (.inr ⟨a, false, h1, h2, h4⟩)
set_option maxHeartbeats 1000000 in
theorem law11_Made.w {m0 : Sto} {x0 : Nat} {K : CR → Sto → Nat → Prop} (n : Nat) (hn : n < 256) (l : List Nat) (hb : Byt l) (hl : l.length ≤ 9223372036854775807)
    (hK : ∀ B1 B2 gs m' x', x0 ≤ x' → (∀ j, j < x0 → m' j = m0 j) → Xc m' B1 (madeSt n l).cl gs x0 x' → Bf m' B2 cI 1 (madeSt n l).md x0 x' → Sep m' B1 B2 (madeSt n l).cl gs x' → K (.ret (.ag [.i .i64 (madeSt n l).vars, B1, B2])) m' x') :
    w ctx (envOf [.i .u8 n, sV cU l]) m0 x0 [] none none (RetG ctx law11_Made.c.rs K) law11_Made.c.code := by
  have hv := varsB_bd n
  have hml := made_len n l
  have hgd := madeSt_gd n l
  have hst := madeSt_step n l
  have hok : ∀ c ∈ madeC n l, okC (varsB n) c = true := made_ok n l
  have hM : madeSt n l = (((madeC n l).take 15).take ((madeC n l).take 15).length).foldl (fun s c => addS s [c]) (emptyS (varsB n)) := by rw [List.take_length]; rfl
  have htl : ((madeC n l).take 15).length = min (madeC n l).length 15 := by rw [List.length_take]; omega
  rw [htl] at hM
  rw [hM] at hK
  simp +contextual (disch := omega) [Nat.add_assoc, Int.add_assoc, if_pos, if_neg, -Int.not_lt, -Int.not_le, -Nat.not_lt, -Nat.not_le, -List.length_flatMap, law11_Made.c, ansK (law08_Vars.a n hn)]
  rw [CallX_op (by rfl)]
  refine openg_w rfl rfl (.inl rfl) ?_
  have hfo : ctx.frz ref11_New.n = false := rfl
  have hfa : ctx.frz ref11_Add.n = false := rfl
  rw [hfo]
  refine ref11_New.w (varsB n) hv.1 (by omega) ?_
  intro B m1 x1 hx1 hm1 hB
  have e0 : m1 x0 = some (.cells [.i .i64 0, .ns, .ns] false) := by rw [hm1 x0 (by omega)]; simp +contextual (disch := omega) [Nat.add_assoc, Int.add_assoc, if_pos, if_neg, -Int.not_lt, -Int.not_le, -Nat.not_lt, -Nat.not_le, -List.length_flatMap]
  simp +contextual (disch := omega) [Nat.add_assoc, Int.add_assoc, if_pos, if_neg, -Int.not_lt, -Int.not_le, -Nat.not_lt, -Nat.not_le, -List.length_flatMap, e0, ansK (law08_Made.a n hn l hb hl)]
  clear hM
  generalize madeC n l = M at *
  obtain ⟨F, hF⟩ : ∃ F : Nat → St, ∀ i, F i = ((M.take 15).take i).foldl (fun s c => addS s [c]) (emptyS (varsB n)) := ⟨_, fun _ => rfl⟩
  simp only [← hF] at hgd hst hK ⊢
  have hF0 : F 0 = emptyS (varsB n) := by rw [hF]; rfl
  obtain ⟨y, hy⟩ : ∃ y, y = x1 + 3 := ⟨_, rfl⟩
  rw [← hy]
  refine for_w (fun i e m x => e 4 = .p x0 0 ∧ e 5 = .p y 0 ∧ e 7 = sV cC M ∧ e 8 = .i .i64 i ∧ y < x ∧ m x0 = some (.cells [.i .i64 0, .ns, .ns] false) ∧ (∀ j, j < x0 → m j = m0 j) ∧
    ∃ B1 B2 gs lo hi, m y = some (.cells [.i .i64 (F i).vars, B1, B2] false) ∧ x0 + 1 ≤ lo ∧ hi ≤ x ∧ (hi ≤ y ∨ y < lo) ∧ Xc m B1 (F i).cl gs lo hi ∧ Bf m B2 cI 1 (F i).md lo hi ∧ Sep m B1 B2 (F i).cl gs hi) (min M.length 15) ?_ ?_ ?_
  · have hmj : ∀ j, j < x0 → m1 j = m0 j := fun j hj => by rw [hm1 j (by omega)]; simp +contextual (disch := omega) [Nat.add_assoc, Int.add_assoc, if_pos, if_neg, -Int.not_lt, -Int.not_le, -Nat.not_lt, -Nat.not_le, -List.length_flatMap]
    simp +contextual (disch := omega) [Nat.add_assoc, Int.add_assoc, if_pos, if_neg, -Int.not_lt, -Int.not_le, -Nat.not_lt, -Nat.not_le, -List.length_flatMap, hF0, e0]
    refine ⟨by omega, hmj, .ns, B, ⟨rfl, rfl, rfl⟩, [], _, ?_, x1, by omega, .inl (by omega), .inl ⟨rfl, rfl, rfl⟩, hB.up (Nat.le_refl _) (fun j h1 h2 => by rw [Sto.sne _ _ _ _ (by omega), Sto.sne _ _ _ _ (by omega)]), fun _ _ _ => .inl ⟨rfl, rfl, rfl⟩⟩
    omega
  · rintro i e m x hi ⟨g4, g5, g7, g8, hx, y0, yj, B1, B2, gs, lo, hj, y5, l1, l2, l3, hX, hB, hS⟩
    have h1 : i < M.length := by omega
    have h2 : i < 15 := by omega
    have hcut : (M.drop i).take 1 = [M[i]] := by rw [List.drop_eq_getElem_cons h1]; rfl
    have hg := hgd i (by omega)
    have hs := hst i (by omega)
    rw [List.getElem_take, ← hg.addT (one_right (by omega) (by omega) (hok _ (List.getElem_mem h1))) (by simp; omega)] at hs
    simp +contextual (disch := omega) [Nat.add_assoc, Int.add_assoc, if_pos, if_neg, -Int.not_lt, -Int.not_le, -Nat.not_lt, -Nat.not_le, -List.length_flatMap, law11_Made.b1, g4, g5, g7, g8, y0, y5, h1, h2, hcut]
    rw [CallX_op (by rfl)]
    refine openg_w rfl rfl (.inl rfl) ?_
    rw [hfa]
    refine ref11_Add.w (s := F i) (A := fun j => lo ≤ j ∧ j < hj) (V1 := B1) (V2 := B2) [M[i]] (hX.ic.up (fun _ _ => rfl) (by omega)) hX.rc (Rl.Bf hB) (fun j h => by omega) (fun j h => by have := hB.ref j h; omega) hg.few (by simp) (fun c hc => by rw [List.mem_singleton.1 hc]; exact Nat.le_trans (okC_six (hok _ (List.getElem_mem h1))) (by omega)) ?_
    intro E1 E2 W gs' m5 x5 hx5 hm5 hX5 hB5 hS5 hW
    rw [← hs] at hX5 hB5 hS5 ⊢
    have z0 := (hm5 x0 (by omega)).trans y0
    have z5 := (hm5 y (by omega)).trans y5
    simp +contextual (disch := omega) [Nat.add_assoc, Int.add_assoc, if_pos, if_neg, -Int.not_lt, -Int.not_le, -Nat.not_lt, -Nat.not_le, -List.length_flatMap, z0, z5, g4, g5, g7, g8]
    refine ⟨by omega, fun j hj => by rw [hm5 j (by omega), yj j hj], E1, E2, ⟨rfl, rfl⟩, gs', _, ?_, x5, by omega, ?_, hX5.up (Nat.le_refl _) (Nat.le_refl _) (fun j h1 h2 => by rw [Sto.sne _ _ _ _ (by omega)]), hB5.up (Nat.le_refl _) (fun j h1 h2 => by rw [Sto.sne _ _ _ _ (by omega)]), hS5.up hB5 (Nat.le_refl _) (fun j h1 h2 => by rw [Sto.sne _ _ _ _ (by omega)])⟩
    · omega
    · omega
  · rintro e m x ⟨g4, g5, g7, g8, hx, y0, yj, B1, B2, gs, lo, hj, y5, l1, l2, l3, hX, hB, hS⟩
    by_cases h : M.length < 15
    · have e3 : min M.length 15 = M.length := by omega
      rw [e3] at g8 y5 hX hB hS hK
      simp +contextual (disch := omega) [Nat.add_assoc, Int.add_assoc, if_pos, if_neg, -Int.not_lt, -Int.not_le, -Nat.not_lt, -Nat.not_le, -List.length_flatMap, law11_Made.b1, g4, g5, g7, g8, y0, y5]
      refine hK B1 B2 gs _ _ (by omega) (fun j hj => by rw [Sto.sne _ _ _ _ (by omega), yj j hj]) ?_ ?_ (hS.up hB (by omega) (fun j h1 h2 => by rw [Sto.sne _ _ _ _ (by omega)]))
      · exact hX.up (by omega) (by omega) (fun j h1 h2 => by rw [Sto.sne _ _ _ _ (by omega)])
      · refine Bf.low (Bf.up hB ?_ ?_) ?_
        · omega
        · intro j h1 h2; rw [Sto.sne _ _ _ _ (by omega)]
        · omega
    · have e3 : min M.length 15 = 15 := by omega
      rw [e3] at g8 y5 hX hB hS hK
      by_cases h4 : 15 < M.length
      · simp +contextual (disch := omega) [Nat.add_assoc, Int.add_assoc, if_pos, if_neg, -Int.not_lt, -Int.not_le, -Nat.not_lt, -Nat.not_le, -List.length_flatMap, law11_Made.b1, g4, g5, g7, g8, y0, y5, h4]
        refine hK B1 B2 gs _ _ (by omega) (fun j hj => by rw [Sto.sne _ _ _ _ (by omega), yj j hj]) ?_ ?_ (hS.up hB (by omega) (fun j h1 h2 => by rw [Sto.sne _ _ _ _ (by omega)]))
        · exact hX.up (by omega) (by omega) (fun j h1 h2 => by rw [Sto.sne _ _ _ _ (by omega)])
        · refine Bf.low (Bf.up hB ?_ ?_) ?_
          · omega
          · intro j h1 h2; rw [Sto.sne _ _ _ _ (by omega)]
          · omega
      · simp +contextual (disch := omega) [Nat.add_assoc, Int.add_assoc, if_pos, if_neg, -Int.not_lt, -Int.not_le, -Nat.not_lt, -Nat.not_le, -List.length_flatMap, law11_Made.b1, g4, g5, g7, g8, y0, y5, h4]
        refine hK B1 B2 gs _ _ (by omega) (fun j hj => by rw [Sto.sne _ _ _ _ (by omega), yj j hj]) ?_ ?_ (hS.up hB (by omega) (fun j h1 h2 => by rw [Sto.sne _ _ _ _ (by omega)]))
        · exact hX.up (by omega) (by omega) (fun j h1 h2 => by rw [Sto.sne _ _ _ _ (by omega)])
        · refine Bf.low (Bf.up hB ?_ ?_) ?_
          · omega
          · intro j h1 h2; rw [Sto.sne _ _ _ _ (by omega)]
          · omega
end Pi


set_option linter.unusedSimpArgs false
set_option linter.unusedVariables false
namespace Pi
end Pi


set_option linter.unusedSimpArgs false
set_option linter.unusedVariables false
namespace Pi
end Pi


set_option linter.unusedSimpArgs false
set_option linter.unusedVariables false
namespace Pi
end Pi


set_option linter.unusedSimpArgs false
set_option linter.unusedVariables false
namespace Pi
theorem nats_small {m : List Int} {X : Int} (h : ∀ i : Nat, 0 ≤ m.getD i 0 ∧ m.getD i 0 ≤ X) (hX : X ≤ 1000000) : Nats m := by
  intro a ha
  obtain ⟨i, hi, rfl⟩ := List.mem_iff_getElem.1 ha
  have := h i
  rw [getD_get _ _ hi] at this
  omega
theorem LeastM.nats {n : Nat} {l : List C} {out : List Int} {X : Int} (h : LeastM l (noughts n) out) (hX : ∀ i : Nat, out.getD i 0 ≤ X) (hb : X ≤ 1000000) : Nats out :=
  nats_small (fun i => ⟨(le_noughts.1 h.ge) i, hX i⟩) hb
theorem limC_bd {n : Nat} {l : List C} (hR : rightC n l = true) (F : Int) (h0 : 0 ≤ F) (h1 : F ≤ 1000) : 0 ≤ limC n l F ∧ limC n l F ≤ 16000 := by
  obtain ⟨r1, r2, r3, r4⟩ := right_ok hR
  have hb := mostS_bd r4
  have b1 : 0 ≤ ((n : Int) - 1) * mostS l := Int.mul_nonneg (by omega) hb.1
  have b2 : ((n : Int) - 1) * mostS l ≤ 15 * 1000 := Int.mul_le_mul (by omega) hb.2 hb.1 (by omega)
  unfold limC
  omega
end Pi


set_option linter.unusedSimpArgs false
set_option linter.unusedVariables false
namespace Pi
section
variable {v k : Nat} {s : St} {a : A} {b : List A}
theorem Gd.all (h : Gd v k s) : ∀ c ∈ s.cl, okC v c = true := (right_ok h.cl).2.2.2
theorem Gd.v1 (h : Gd v k s) : 0 < v := by have := (right_ok h.cl).1; omega
theorem Gd.least (h : Gd v k s) : LeastM s.cl (noughts v) s.md ∧ ∀ i, s.md.getD i 0 ≤ limC v s.cl 0 := by
  rcases solve_spec h.v1 h.all with ⟨h1, h2, h3⟩ | ⟨h1, _⟩
  · rw [h.sol.2] at h2 h3
    exact ⟨h2, h3⟩
  · rw [h.sol.1] at h1; cases h1
theorem Gd.nats (h : Gd v k s) : Nats s.md ∧ s.md.length = v := by
  have hb := limC_bd h.cl 0 (by omega) (by omega)
  exact ⟨h.least.1.nats h.least.2 (by omega), by rw [h.least.1.len, noughts_len]⟩
end
end Pi

