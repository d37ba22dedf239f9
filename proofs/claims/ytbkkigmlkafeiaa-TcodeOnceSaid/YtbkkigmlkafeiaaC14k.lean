/- Contracts: terms as bytes (layer 14): what is read stands there as it is written. -/
import Derived.Test.YtbkkigmlkafeiaaC03f
import Derived.Test.YtbkkigmlkafeiaaC14d
set_option linter.unusedSimpArgs false
set_option linter.unusedVariables false
namespace Pi
theorem numT_told {s : List Nat} {a most : Nat} (hb : Byt s) (h : (numT s a most).2.2 = 0) : a < (numT s a most).2.1 ∧ (numT s a most).2.1 ≤ s.length ∧ s.drop a = digs (numT s a most).1 ++ s.drop (numT s a most).2.1 := by
  unfold numT at h ⊢
  by_cases h1 : (getS s a).2.2 = 0
  · rw [if_neg (by omega)] at h ⊢
    by_cases h2 : most ≤ (getS s a).1
    · rw [if_pos h2] at h; simp at h
    · rw [if_neg h2]; exact getS_told hb h1
  · rw [if_pos h1] at h; simp at h; exact absurd h h1
theorem lvR_told {s : List Nat} {a : Nat} {v : L} {a' n' : Nat} (hb : Byt s) (h : lvR s a = .ok v a' n') : RightS v 5 10 = true ∧ a < a' ∧ a' ≤ s.length ∧ s.drop a = textL v ++ s.drop a' := by
  unfold lvR at h
  split at h
  · cases h
  · rename_i hl
    obtain ⟨r1, r2, r3, r4, r5, r6⟩ := rd_read s hb 12 a 0 v a' n' (by omega) h
    exact ⟨RightS_of (p := 5) (q := 10) (by omega) (by omega) (by omega) r1, r2, r3, r4⟩
theorem rdLs_told {s : List Nat} (hb : Byt s) : ∀ {m a : Nat} {ls : List L} {a' : Nat}, a ≤ s.length → rdLs s m a = .ok ls a' → ls.length = m ∧ (∀ l ∈ ls, RightS l 5 10 = true) ∧ a ≤ a' ∧ a' ≤ s.length ∧ s.drop a = ls.flatMap textL ++ s.drop a'
  | 0, a, ls, a', ha, h => by cases h; simp [ha]
  | m + 1, a, ls, a', ha, h => by
    rw [rdLs_succ] at h
    cases hr : lvR s a with
    | bad e => rw [hr] at h; cases h
    | ok v a2 n2 =>
      rw [hr] at h
      simp only at h
      obtain ⟨v1, v2, v3, v4⟩ := lvR_told hb hr
      cases hr2 : rdLs s m a2 with
      | bad e => rw [hr2] at h; cases h
      | ok ls2 a3 =>
        rw [hr2] at h
        cases h
        obtain ⟨h1, h2, h3, h4, h5⟩ := rdLs_told hb v3 hr2
        refine ⟨by simp [h1], fun x hx => ?_, by omega, h4, ?_⟩
        · rcases List.mem_cons.1 hx with rfl | hx
          · exact v1
          · exact h2 x hx
        · rw [v4, h5]; simp
/-- What a reading of a term tells. -/
def Told (s : List Nat) (f : Nat → Nat → Nat → TR) (d : Int) : Prop := ∀ b a n v a' n', a ≤ s.length → f b a n = .ok v a' n' → rightT v (1000 + b : Nat) 5 10 d = true ∧ a < a' ∧ a' ≤ s.length ∧ s.drop a = textT v ++ s.drop a' ∧ n' = n + szT v ∧ n' ≤ 600
theorem rdKs_told {s : List Nat} {f : Nat → Nat → Nat → TR} {d : Int} (hf : Told s f d) : ∀ {bl : List Nat} {a n : Nat} {ks : List Tm} {a' n' : Nat}, a ≤ s.length → n ≤ 600 → rdKs f bl a n = .ok ks a' n' → ks.length = bl.length ∧ (∀ (j : Nat) (h : j < ks.length) (h2 : j < bl.length), rightT ks[j] (1000 + bl[j] : Nat) 5 10 d = true) ∧ a ≤ a' ∧ a' ≤ s.length ∧ s.drop a = ks.flatMap textT ++ s.drop a' ∧ n' = n + szTs ks ∧ n' ≤ 600
  | [], a, n, ks, a', n', ha, hn, h => by cases h; simp [ha, hn, szTs]
  | b :: bl, a, n, ks, a', n', ha, hn, h => by
    rw [rdKs_cons] at h
    cases hr : f b a n with
    | bad e => rw [hr] at h; cases h
    | ok v a2 n2 =>
      rw [hr] at h
      simp only at h
      obtain ⟨v1, v2, v3, v4, v5, v6⟩ := hf _ _ _ _ _ _ ha hr
      cases hr2 : rdKs f bl a2 n2 with
      | bad e => rw [hr2] at h; cases h
      | ok ls2 a3 n3 =>
        rw [hr2] at h
        cases h
        obtain ⟨h1, h2, h3, h4, h5, h6, h7⟩ := rdKs_told hf v3 v6 hr2
        refine ⟨by simp [h1], fun j hj hj2 => ?_, by omega, h4, ?_, by simp only [szTs, List.cons_append, List.nil_append]; omega, h7⟩
        · cases j with
          | zero => exact v1
          | succ j => exact h2 j (by simpa using hj) (by simpa using hj2)
        · rw [v4, h5]; simp
theorem rightT_of {t : Tm} {v p q d : Int} (h1 : 0 < d) (h2 : (t.kids.length : Int) = kidsT t.kind) (h3 : namedT t v = true) (h4 : ∀ l ∈ t.lvls, RightS l p q = true) (h5 : ∀ (j : Nat) (h : j < t.kids.length), rightT t.kids[j] (v + bindT t.kind j) p q (d - 1) = true) : rightT t v p q d = true := by
  rw [rightT_eq]
  have e1 : (t.lvls.any fun l => !(RightS l p q)) = false := by
    rw [List.any_eq_false]
    intro x hx
    rw [h4 x hx]
    simp
  rw [e1, h3, rightTs_true.2 (fun j h => by rw [Nat.zero_add]; exact h5 j h)]
  simp [h1, h2]
theorem parts_up (m : Int) : ∀ (ks : List Tm), (∀ k ∈ ks, ∀ m : Int, partsT k m ≤ (szT k : Int)) → ∀ (n s : Int), n ≤ s → ks.foldl (partsF m) n ≤ s + szTs ks
  | [], _, n, s, h => by simpa [szTs] using h
  | k :: r, hk, n, s, h => by
    rw [List.foldl_cons]
    have h1 := hk k (by simp) (m - n)
    have := parts_up m r (fun x hx => hk x (by simp [hx])) (partsF m n k) (s + szT k) (by unfold partsF; split <;> omega)
    simp only [szTs]
    omega
theorem parts_le (t : Tm) : ∀ m : Int, partsT t m ≤ (szT t : Int) := by
  induction t using Tm.ind with
  | h t ih =>
    intro m
    have := parts_up m t.kids ih 1 1 (by omega)
    rw [partsT_eq, szT_eq]
    omega
theorem textT_1 (n : Nat) : textT (.mk 1 n [] []) = digs 1 ++ digs n := by
  rw [textT_eq]; simp [headT]
theorem textT_2 (ls : List L) : textT (.mk 2 0 ls []) = digs 2 ++ ls.flatMap textL := by
  rw [textT_eq]; simp [headT]
theorem textT_3 (n : Nat) (ls : List L) : textT (.mk 3 n ls []) = digs 3 ++ (digs n ++ (digs ls.length ++ ls.flatMap textL)) := by
  rw [textT_eq]; simp [headT]
theorem textT_k (k : Nat) (h1 : k ≠ 1) (h3 : k ≠ 3) (ks : List Tm) : textT (.mk k 0 [] ks) = digs k ++ ks.flatMap textT := by
  have h1' : ¬ (k : Int) = 1 := by omega
  have h3' : ¬ (k : Int) = 3 := by omega
  rw [textT_eq]; simp [headT, h1', h3']
set_option maxHeartbeats 2000000 in
theorem rdT_told (s : List Nat) (hb : Byt s) : ∀ d : Nat, Told s (rdT s d) d
  | 0 => fun b a n v a' n' _ h => by cases h
  | d + 1 => fun b a n v a' n' ha h => by
    have ih := rdT_told s hb d
    unfold rdT at h
    split at h
    · cases h
    rename_i hn
    split at h
    · cases h
    rename_i he
    obtain ⟨g1, g2, g3⟩ := numT_told (a := a) (most := 1099511627777) hb (by omega)
    generalize numT s a 1099511627777 = r at h g1 g2 g3 he
    obtain ⟨k, a1, e1⟩ := r
    simp only at h g1 g2 g3
    have hdd : ((d + 1 : Nat) : Int) - 1 = (d : Nat) := by omega
    unfold partT at h
    split at h
    · rename_i hk
      subst hk
      split at h
      · cases h
      rename_i he2
      obtain ⟨k1, k2, k3⟩ := numT_told (a := a1) (most := 1000 + b) hb (by omega)
      have hlt := numT_lt (s := s) (a := a1) (most := 1000 + b) (by omega)
      cases h
      generalize numT s a1 (1000 + b) = r at *
      refine ⟨rightT_of (by omega) (by simp [kidsT]) ?_ (by simp) (by simp), by omega, k2, by rw [textT_1, g3, k3]; simp, by simp [szT, szTs], by omega⟩
      simp [namedT]
      exact decide_eq_true (by omega)
    split at h
    · rename_i hk
      subst hk
      cases hr : rdLs s 1 a1 with
      | bad e => rw [hr] at h; cases h
      | ok ls a2 =>
        rw [hr] at h
        cases h
        obtain ⟨h1, h2, h3, h4, h5⟩ := rdLs_told hb g2 hr
        refine ⟨rightT_of (by omega) (by simp [kidsT]) ?_ h2 (by simp), by omega, h4, ?_, by simp [szT, szTs], by omega⟩
        · simp [namedT, h1]
        · have := textT_2 ls
          rw [g3, h5, ← List.append_assoc, ← this]
          rfl
    split at h
    · rename_i hk
      subst hk
      split at h
      · cases h
      rename_i he2
      split at h
      · cases h
      rename_i he3
      obtain ⟨k1, k2, k3⟩ := numT_told (a := a1) (most := 20) hb (by omega)
      have hlt := numT_lt (s := s) (a := a1) (most := 20) (by omega)
      generalize numT s a1 20 = r2 at *
      obtain ⟨l1, l2, l3⟩ := numT_told (a := r2.2.1) (most := 6) hb (by omega)
      have hlt2 := numT_lt (s := s) (a := r2.2.1) (most := 6) (by omega)
      generalize numT s r2.2.1 6 = r3 at *
      cases hr : rdLs s r3.1 r3.2.1 with
      | bad e => rw [hr] at h; cases h
      | ok ls a2 =>
        rw [hr] at h
        cases h
        obtain ⟨h1, h2, h3, h4, h5⟩ := rdLs_told hb l2 hr
        refine ⟨rightT_of (by omega) (by simp [kidsT]) ?_ h2 (by simp), by omega, h4, ?_, by simp [szT, szTs], by omega⟩
        · simp [namedT, h1]
          exact ⟨decide_eq_true (by omega), by omega⟩
        · rw [show ((3 : Nat) : Int) = 3 from rfl, textT_3, g3, k3, l3, h5, h1]
          simp
    split at h
    · rename_i n1 n2 n3 hk
      cases hr : rdKs (rdT s d) (kidsB k b) a1 (n + 1) with
      | bad e => rw [hr] at h; cases h
      | ok ks a2 n2 =>
        rw [hr] at h
        cases h
        obtain ⟨h1, h2, h3, h4, h5, h6, h7⟩ := rdKs_told ih g2 (by omega) hr
        have hB : ((kidsB k b).length : Int) = kidsT k ∧ ∀ (j : Nat) (h : j < (kidsB k b).length), (((kidsB k b)[j] : Nat) : Int) = b + bindT k j := by
          rcases hk with rfl | rfl | rfl | rfl
          all_goals refine ⟨by simp [kidsB, kidsT], fun j h => ?_⟩
          · have : j = 0 ∨ j = 1 := by simp [kidsB] at h; omega
            rcases this with rfl | rfl <;> simp [kidsB, bindT]
          · have : j = 0 ∨ j = 1 := by simp [kidsB] at h; omega
            rcases this with rfl | rfl <;> simp [kidsB, bindT]
          · have : j = 0 ∨ j = 1 := by simp [kidsB] at h; omega
            rcases this with rfl | rfl <;> simp [kidsB, bindT]
          · have : j = 0 ∨ j = 1 ∨ j = 2 := by simp [kidsB] at h; omega
            rcases this with rfl | rfl | rfl <;> simp [kidsB, bindT]
        refine ⟨rightT_of (by omega) ?_ ?_ (by simp) ?_, by omega, h4, ?_, by simp only [szT]; omega, h7⟩
        · show (ks.length : Int) = kidsT k
          rw [← hB.1, h1]
        · have q1 : ¬ (k : Int) = 1 := by omega
          have q2 : ¬ (k : Int) = 2 := by omega
          have q3 : ¬ (k : Int) = 3 := by omega
          simp [namedT, q1, q2, q3]
        · intro j hj
          have := h2 j hj (by rw [← h1]; exact hj)
          have e := hB.2 j (by rw [← h1]; exact hj)
          rw [hdd]
          rwa [show ((1000 + (kidsB k b)[j]'(by rw [← h1]; exact hj) : Nat) : Int) = ((1000 + b : Nat) : Int) + bindT k j by omega] at this
        · rw [textT_k k n1 n3, g3, h5]; simp
    · cases h
theorem rdT_bad (s : List Nat) : ∀ (d b a n e : Nat), rdT s d b a n = .bad e → e ≠ 0
  | 0, b, a, n, e, h => by cases h; omega
  | d + 1, b, a, n, e, h => by
    have hl : ∀ {m a e : Nat}, rdLs s m a = .bad e → e ≠ 0 := by
      intro m
      induction m with
      | zero => intro a e h; cases h
      | succ m ih =>
        intro a e h
        rw [rdLs_succ] at h
        cases hr : lvR s a with
        | bad q => rw [hr] at h; cases h; exact lvR_bad hr
        | ok v a2 n2 =>
          rw [hr] at h
          simp only at h
          cases hr2 : rdLs s m a2 with
          | bad q => rw [hr2] at h; cases h; exact ih hr2
          | ok ls a3 => rw [hr2] at h; cases h
    have hk : ∀ {bl : List Nat} {a n e : Nat}, rdKs (rdT s d) bl a n = .bad e → e ≠ 0 := by
      intro bl
      induction bl with
      | nil => intro a n e h; cases h
      | cons b bl ih =>
        intro a n e h
        rw [rdKs_cons] at h
        cases hr : rdT s d b a n with
        | bad q => rw [hr] at h; cases h; exact rdT_bad s d _ _ _ _ hr
        | ok v a2 n2 =>
          rw [hr] at h
          simp only at h
          cases hr2 : rdKs (rdT s d) bl a2 n2 with
          | bad q => rw [hr2] at h; cases h; exact ih hr2
          | ok ls a3 n3 => rw [hr2] at h; cases h
    unfold rdT at h
    split at h
    · cases h; omega
    split at h
    · rename_i h1; cases h; exact h1
    unfold partT at h
    split at h
    · split at h
      · rename_i h1; cases h; exact h1
      · cases h
    split at h
    · generalize hr : rdLs s 1 _ = r at h
      cases r with
      | ok ls a2 => cases h
      | bad q => cases h; exact hl hr
    split at h
    · split at h
      · rename_i h1; cases h; exact h1
      split at h
      · rename_i h1; cases h; exact h1
      generalize hr : rdLs s _ _ = r at h
      cases r with
      | ok ls a2 => cases h
      | bad q => cases h; exact hl hr
    split at h
    · generalize hr : rdKs _ _ _ _ = r at h
      cases r with
      | ok ls a2 n2 => cases h
      | bad q => cases h; exact hk hr
    · cases h; omega
theorem tonce_tail (o : List Nat) (ho : Byt o) (hn : o.length ≤ 300) : (∃ v, ∃ at' : Nat, Ans ctx tcode_Get.n [.s (bs o), .i .i64 0] (.tu [.ag (cT v), .i .i64 at', .i .i64 0]) ∧ Ans ctx tcode_Put.n [.ag (cT v)] (.tu [.s (bs (o.take at')), .i .i64 0]) ∧ 1 ≤ at' ∧ at' ≤ o.length) ∨
    ∃ e : Nat, e ≠ 0 ∧ Ans ctx tcode_Get.n [.s (bs o), .i .i64 0] (.tu [.ag (cT (.mk 0 0 [] [])), .i .i64 0, .i .i64 e]) := by
  have g := tcode_Get.a o 0 ho (by omega)
  have hg : getTV o 0 = trV (rdT o 30 0 0 0) := by unfold getTV; rw [if_neg (by omega)]; rfl
  rw [hg] at g
  cases hr : rdT o 30 0 0 0 with
  | bad e =>
    rw [hr] at g
    exact .inr ⟨e, rdT_bad o _ _ _ _ _ hr, g⟩
  | ok v a n =>
    rw [hr] at g
    obtain ⟨r1, r2, r3, r4, r5, r6⟩ := rdT_told o ho 30 0 0 0 v a n (by omega) hr
    have hp := parts_le v 601
    have hR : RightT v 1000 5 10 = true := by
      unfold RightT
      rw [if_neg (by omega)]
      simp only [Bool.and_eq_true, decide_eq_true_eq]
      exact ⟨by omega, r1⟩
    have p1 := tcode_Put.a v (rdT_ok o _ _ _ _ _ _ _ hr)
    unfold putTm at p1
    rw [if_pos hR] at p1
    rw [List.drop_zero] at r4
    have hl := congrArg List.length r4
    rw [List.length_append, List.length_drop] at hl
    have ht : o.take a = textT v := by rw [r4]; exact List.take_left' (by omega)
    rw [← ht] at p1
    exact .inl ⟨v, a, g, p1, by omega, r3⟩
set_option maxHeartbeats 2000000 in
set_option maxRecDepth 10000 in
theorem law14_TcodeOnce.a (t : ByteArray) (l : List Nat) (hl : l.length ≤ 9223372036854775807) (hb0 : Byt l) (small : Bool) : Ans ctx law14_TcodeOnce.n [.s t, sV cU l, .b small] (.b true) := by
  obtain ⟨s, rfl, hs⟩ := bs_of t
  refine ans law14_TcodeOnce.f ?_
  by_cases h : small = false ∧ s.length ≤ 300
  · obtain ⟨rfl, h2⟩ := h
    have h3 : ¬ (s.length : Int) > 300 := by omega
    rcases tonce_tail s hs h2 with ⟨v, a, q1, q2, q3, q4⟩ | ⟨e, q1, q2⟩
    · simp +contextual (disch := omega) [Nat.add_assoc, Int.add_assoc, if_pos, if_neg, -Int.not_lt, -Int.not_le, -Nat.not_lt, -Nat.not_le, -List.length_flatMap, law14_TcodeOnce.c, h3, ansK q1, ansK q2]
    · simp +contextual (disch := omega) [Nat.add_assoc, Int.add_assoc, if_pos, if_neg, -Int.not_lt, -Int.not_le, -Nat.not_lt, -Nat.not_le, -List.length_flatMap, law14_TcodeOnce.c, h3, ansK q2]
  · have hs2 : small = true ∨ (small = false ∧ (s.length : Int) > 300) := by
      cases small with
      | true => exact .inl rfl
      | false => exact .inr ⟨rfl, by simp at h; omega⟩
    rcases hs2 with rfl | ⟨rfl, h3⟩
    · simp +contextual (disch := omega) [Nat.add_assoc, Int.add_assoc, if_pos, if_neg, -Int.not_lt, -Int.not_le, -Nat.not_lt, -Nat.not_le, -List.length_flatMap, law14_TcodeOnce.c]
      refine while_w (fun k e m x => ∃ (i : Nat) (o : List Nat), e 1 = sV cU l ∧ e 0 = .s (bs o) ∧ e 8 = .i .i64 i ∧ e 7 = .b true ∧ k = 40 - i ∧ i ≤ 40 ∧ o.length = i ∧ Byt o) 40 ?_ ?_
      · exact ⟨0, [], by simp +contextual (disch := omega) [Nat.add_assoc, Int.add_assoc, if_pos, if_neg, -Int.not_lt, -Int.not_le, -Nat.not_lt, -Nat.not_le, -List.length_flatMap, Byt.nil]⟩
      · rintro k e m x ⟨i, o, g1, g2, g3, g7, rfl, g4, g5, g6⟩
        by_cases hi : i < l.length ∧ i < 40
        · obtain ⟨hi1, hi2⟩ := hi
          generalize hb : l[i] = b
          have hb1 := hb0.at hi1
          rw [hb] at hb1
          obtain ⟨c, hc1, hc2⟩ : ∃ c : Nat, c < 256 ∧ [V.i .u8 4, V.i .u8 1, V.i .u8 0, V.i .u8 2, V.i .u8 1, V.i .u8 5, V.i .u8 6, V.i .u8 1][((b : Int) % 8).toNat]? = some (.i .u8 c) := by
            have h12 : (b : Int) % 8 = ((b % 8 : Nat) : Int) := rfl
            have hlt : b % 8 < 8 := Nat.mod_lt _ (by omega)
            rw [h12, Int.toNat_natCast]
            generalize b % 8 = q at hlt ⊢
            rcases (by omega : q = 0 ∨ q = 1 ∨ q = 2 ∨ q = 3 ∨ q = 4 ∨ q = 5 ∨ q = 6 ∨ q = 7) with rfl | rfl | rfl | rfl | rfl | rfl | rfl | rfl
            all_goals exact ⟨_, by decide, rfl⟩
          simp +contextual (disch := omega) [Nat.add_assoc, Int.add_assoc, if_pos, if_neg, -Int.not_lt, -Int.not_le, -Nat.not_lt, -Nat.not_le, -List.length_flatMap, law14_TcodeOnce.b1, g1, g2, g3, g7, hi1, hb, Int.tmod_eq_emod_of_nonneg, hc2]
          exact ⟨40 - (i + 1), by omega, i + 1, o ++ [c], by simp, by omega, rfl, by omega, by simp; omega, g6.app (Byt.cons hc1 .nil)⟩
        · rcases tonce_tail o g6 (by omega) with ⟨v, a, q1, q2, q3, q4⟩ | ⟨er, q1, q2⟩
          · simp +contextual (disch := omega) [Nat.add_assoc, Int.add_assoc, if_pos, if_neg, -Int.not_lt, -Int.not_le, -Nat.not_lt, -Nat.not_le, -List.length_flatMap, law14_TcodeOnce.b1, g1, g2, g3, g7, ansK q1, ansK q2]
          · simp +contextual (disch := omega) [Nat.add_assoc, Int.add_assoc, if_pos, if_neg, -Int.not_lt, -Int.not_le, -Nat.not_lt, -Nat.not_le, -List.length_flatMap, law14_TcodeOnce.b1, g1, g2, g3, g7, ansK q2]
    · simp +contextual (disch := omega) [Nat.add_assoc, Int.add_assoc, if_pos, if_neg, -Int.not_lt, -Int.not_le, -Nat.not_lt, -Nat.not_le, -List.length_flatMap, law14_TcodeOnce.c, h3]
      refine while_w (fun k e m x => ∃ (i : Nat) (o : List Nat), e 1 = sV cU l ∧ e 0 = .s (bs o) ∧ e 8 = .i .i64 i ∧ e 7 = .b true ∧ k = 40 - i ∧ i ≤ 40 ∧ o.length = i ∧ Byt o) 40 ?_ ?_
      · exact ⟨0, [], by simp +contextual (disch := omega) [Nat.add_assoc, Int.add_assoc, if_pos, if_neg, -Int.not_lt, -Int.not_le, -Nat.not_lt, -Nat.not_le, -List.length_flatMap, Byt.nil]⟩
      · rintro k e m x ⟨i, o, g1, g2, g3, g7, rfl, g4, g5, g6⟩
        by_cases hi : i < l.length ∧ i < 40
        · obtain ⟨hi1, hi2⟩ := hi
          generalize hb : l[i] = b
          have hb1 := hb0.at hi1
          rw [hb] at hb1
          obtain ⟨c, hc1, hc2⟩ : ∃ c : Nat, c < 256 ∧ [V.i .u8 4, V.i .u8 1, V.i .u8 0, V.i .u8 2, V.i .u8 1, V.i .u8 5, V.i .u8 6, V.i .u8 1][((b : Int) % 8).toNat]? = some (.i .u8 c) := by
            have h12 : (b : Int) % 8 = ((b % 8 : Nat) : Int) := rfl
            have hlt : b % 8 < 8 := Nat.mod_lt _ (by omega)
            rw [h12, Int.toNat_natCast]
            generalize b % 8 = q at hlt ⊢
            rcases (by omega : q = 0 ∨ q = 1 ∨ q = 2 ∨ q = 3 ∨ q = 4 ∨ q = 5 ∨ q = 6 ∨ q = 7) with rfl | rfl | rfl | rfl | rfl | rfl | rfl | rfl
            all_goals exact ⟨_, by decide, rfl⟩
          simp +contextual (disch := omega) [Nat.add_assoc, Int.add_assoc, if_pos, if_neg, -Int.not_lt, -Int.not_le, -Nat.not_lt, -Nat.not_le, -List.length_flatMap, law14_TcodeOnce.b1, g1, g2, g3, g7, hi1, hb, Int.tmod_eq_emod_of_nonneg, hc2]
          exact ⟨40 - (i + 1), by omega, i + 1, o ++ [c], by simp, by omega, rfl, by omega, by simp; omega, g6.app (Byt.cons hc1 .nil)⟩
        · rcases tonce_tail o g6 (by omega) with ⟨v, a, q1, q2, q3, q4⟩ | ⟨er, q1, q2⟩
          · simp +contextual (disch := omega) [Nat.add_assoc, Int.add_assoc, if_pos, if_neg, -Int.not_lt, -Int.not_le, -Nat.not_lt, -Nat.not_le, -List.length_flatMap, law14_TcodeOnce.b1, g1, g2, g3, g7, ansK q1, ansK q2]
          · simp +contextual (disch := omega) [Nat.add_assoc, Int.add_assoc, if_pos, if_neg, -Int.not_lt, -Int.not_le, -Nat.not_lt, -Nat.not_le, -List.length_flatMap, law14_TcodeOnce.b1, g1, g2, g3, g7, ansK q2]
end Pi

