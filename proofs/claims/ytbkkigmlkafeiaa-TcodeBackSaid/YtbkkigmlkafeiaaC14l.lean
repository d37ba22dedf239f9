/- Contracts: terms as bytes (layer 14): what is written is read again; what is cut off is not. -/
import Derived.Test.YtbkkigmlkafeiaaC14d
import Derived.Test.YtbkkigmlkafeiaaC14o
import Derived.Test.YtbkkigmlkafeiaaC02k
set_option linter.unusedSimpArgs false
set_option linter.unusedVariables false
namespace Pi
theorem getS_digs {s : List Nat} {a n : Nat} {r : List Nat} (hn : n ≤ 1099511627776) (h : s.drop a = digs n ++ r) : getS s a = (n, a + (digs n).length, 0) := by
  have hd := List.length_pos_iff.2 (digs_ne n)
  have ha : a < s.length := by
    have := congrArg List.length h
    rw [List.length_drop, List.length_append] at this
    omega
  have hl : (digs n).length ≤ 6 := digs_len 5 (by omega)
  have hg : getR (digs n ++ r) 0 0 = (n, (digs n).length, 0) := by
    have := getR_digs n 0 0 r (by omega) (.inl rfl) (by omega)
    simpa using this
  have h0 : ¬ ((a : Int) < 0 ∨ (a : Int) > s.length) := by omega
  simp only [getS, if_neg h0, Int.toNat_natCast, h, hg, if_true]
theorem numT_write {s : List Nat} {a n most : Nat} {r : List Nat} (hm : n < most) (hn : n ≤ 1099511627776) (h : s.drop a = digs n ++ r) : numT s a most = (n, a + (digs n).length, 0) := by
  have hg := getS_digs hn h
  unfold numT
  rw [hg]
  simp only
  rw [if_neg (by omega), if_neg (by omega)]
/-- Behind a part of a text: cut off in the first of two, or in the second. -/
theorem cut_two {t u A B : List Nat} (h : t ++ u = A ++ B) (hu : u ≠ []) : (∃ c, t ++ c = A ∧ c ≠ []) ∨ ∃ c, t = A ++ c ∧ c ++ u = B := by
  rcases List.append_eq_append_iff.1 h with ⟨c, e1, e2⟩ | ⟨c, e1, e2⟩
  · by_cases hc : c = []
    · subst hc
      exact .inr ⟨[], by simpa using e1.symm, by simpa using e2⟩
    · exact .inl ⟨c, e1.symm, hc⟩
  · exact .inr ⟨c, e1, e2.symm⟩
theorem getR_cut (n : Nat) : ∀ (k a : Nat) (p u : List Nat), k + (digs n).length ≤ 6 → p ++ u = digs n → u ≠ [] → getR p k a = (0, 0, 21) := by
  induction n using digs.induct with
  | case1 n h =>
    intro k a p u h1 h2 h3
    rw [digs_lt h] at h2
    cases p with
    | nil => rfl
    | cons x p => simp at h2; exact absurd h2.2.2 h3
  | case2 n h ih =>
    intro k a p u h1 h2 h3
    rw [digs_ge (by omega)] at h1 h2
    simp only [List.length_cons] at h1
    cases p with
    | nil => rfl
    | cons x p =>
      simp only [List.cons_append, List.cons.injEq] at h2
      obtain ⟨rfl, h2⟩ := h2
      rw [getR, if_neg (by omega), if_neg (by omega)]
      exact ih (k + 1) _ p u (by omega) h2 h3
theorem num_cut {s : List Nat} {k : Nat} {A p u : List Nat} {a : Nat} (hk : k ≤ 1099511627776) (ha : a ≤ s.length) (hs : s.drop a = p) (h : p ++ u = digs k ++ A) (hu : u ≠ []) : (∀ most, numT s a most = (0, a, 21)) ∨ ∃ c, p = digs k ++ c ∧ c ++ u = A := by
  rcases cut_two h hu with ⟨c, e1, e2⟩ | ⟨c, e1, e2⟩
  · have hl : (digs k).length ≤ 6 := digs_len 5 (by omega)
    have hg := getR_cut k 0 0 p c (by omega) e1 e2
    have h0 : ¬ ((a : Int) < 0 ∨ (a : Int) > s.length) := by omega
    have hgs : getS s a = (0, 0, 21) := by
      simp only [getS, if_neg h0, Int.toNat_natCast, hs, hg]
      rfl
    refine .inl fun most => ?_
    unfold numT
    rw [hgs]
    simp
  · exact .inr ⟨c, e1, e2⟩
theorem nodes_fold (m : Int) : ∀ (ks : List L), (∀ k ∈ ks, ∀ m : Int, (szL k : Int) ≤ nodesS k m ∨ m ≤ nodesS k m) → ∀ (n s : Int), (s ≤ n ∨ m ≤ n) → (s + szLs ks ≤ ks.foldl (nodesF m) n ∨ m ≤ ks.foldl (nodesF m) n)
  | [], _, n, s, h => by simpa [szLs] using h
  | k :: r, hk, n, s, h => by
    rw [List.foldl_cons]
    have h1 := hk k (by simp) (m - n)
    have hb := nodesS_bd k (m - n)
    have := nodes_fold m r (fun x hx => hk x (by simp [hx])) (nodesF m n k) (s + szL k) (by unfold nodesF; split <;> omega)
    simp only [szLs]
    omega
theorem nodes_sz (t : L) : ∀ m : Int, (szL t : Int) ≤ nodesS t m ∨ m ≤ nodesS t m := by
  induction t using L.ind with
  | h t ih =>
    intro m
    have := nodes_fold m t.kids ih 1 1 (.inl (by omega))
    have e : szL t = 1 + szLs t.kids := by cases t; simp [szL]
    rw [nodesS_eq, e]
    omega
theorem RightS_sz {l : L} (h : RightS l 5 10 = true) : szL l ≤ 100 := by
  unfold RightS at h
  split at h
  · cases h
  · have h1 : nodesS l 101 ≤ 100 := of_decide_eq_true (Bool.and_eq_true _ _ ▸ h).1
    have := nodes_sz l 101
    omega
theorem lvR_write {s : List Nat} {a : Nat} {l : L} {r : List Nat} (hl : RightS l 5 10 = true) (h : s.drop a = textL l ++ r) : lvR s a = .ok l (a + (textL l).length) (szL l) := by
  have hp := textL_cons_len l
  have ha : a < s.length := by
    have := congrArg List.length h
    rw [List.length_drop, List.length_append] at this
    omega
  unfold lvR
  rw [if_neg (by omega)]
  have := rd_write s 12 l a 0 r (RightS_right hl) (by have := RightS_sz hl; omega) h
  rwa [Nat.zero_add] at this
theorem lvR_cut {s : List Nat} {a : Nat} {l : L} {t u : List Nat} (hl : RightS l 5 10 = true) (ha : a ≤ s.length) (h : s.drop a = t) (ht : t ++ u = textL l) (hu : u ≠ []) : lvR s a = .bad 21 := by
  unfold lvR
  rw [if_neg (by omega)]
  exact rd_cut s 12 l a 0 t u (RightS_right hl) (by have := RightS_sz hl; omega) ha h ht hu
theorem rdLs_write {s : List Nat} : ∀ {ls : List L} {a : Nat} {r : List Nat}, (∀ l ∈ ls, RightS l 5 10 = true) → s.drop a = ls.flatMap textL ++ r → rdLs s ls.length a = .ok ls (a + (ls.flatMap textL).length)
  | [], a, r, _, _ => by simp [rdLs]
  | l :: ls, a, r, hl, h => by
    rw [List.flatMap_cons, List.append_assoc] at h
    have h1 := lvR_write (hl l (by simp)) h
    have h2 := rdLs_write (fun x hx => hl x (by simp [hx])) (drop_app h)
    rw [List.length_cons, rdLs_succ, h1]
    simp only
    rw [h2]
    simp only [LR.pre, List.flatMap_cons, List.length_append, List.cons_append, List.nil_append]
    rw [Nat.add_assoc]
theorem drop_le {s : List Nat} {a : Nat} {k r : List Nat} (ha : a ≤ s.length) (h : s.drop a = k ++ r) : a + k.length ≤ s.length := by
  have := congrArg List.length h
  rw [List.length_drop, List.length_append] at this
  omega
theorem rdLs_cut {s : List Nat} : ∀ {ls : List L} {a : Nat} {t u : List Nat}, (∀ l ∈ ls, RightS l 5 10 = true) → a ≤ s.length → s.drop a = t → t ++ u = ls.flatMap textL → u ≠ [] → rdLs s ls.length a = .bad 21
  | [], a, t, u, _, _, _, h, hu => by simp at h; exact absurd h.2 hu
  | l :: ls, a, t, u, hl, ha, h, ht, hu => by
    rw [List.flatMap_cons] at ht
    rw [List.length_cons, rdLs_succ]
    rcases cut_two ht hu with ⟨c, e1, e2⟩ | ⟨c, e1, e2⟩
    · rw [lvR_cut (hl l (by simp)) ha h e1 e2]
    · rw [e1] at h
      rw [lvR_write (hl l (by simp)) h]
      simp only
      rw [rdLs_cut (fun x hx => hl x (by simp [hx])) (drop_le ha h) (drop_app h) e2 hu]
      rfl
/-- A right term, by its kind. -/
theorem right_form {t : Tm} {v : Nat} {d : Int} (h : rightT t v 5 10 d = true) (hv : v ≤ 2000) : (∃ N : Nat, N < v ∧ t = .mk 1 N [] []) ∨ (∃ l, RightS l 5 10 = true ∧ t = .mk 2 0 [l] []) ∨
    (∃ (N : Nat) (ls : List L), N < 20 ∧ ls.length ≤ 5 ∧ (∀ l ∈ ls, RightS l 5 10 = true) ∧ t = .mk 3 N ls []) ∨
    ∃ (k : Nat) (ks : List Tm), (k = 4 ∨ k = 5 ∨ k = 6 ∨ k = 7) ∧ t = .mk k 0 [] ks ∧ (ks.length : Int) = kidsT k ∧ ∀ (j : Nat) (h : j < ks.length), rightT ks[j] (v + bindT k j) 5 10 (d - 1) = true := by
  obtain ⟨r1, r2, r3, r4, r5⟩ := rightT_at h
  obtain ⟨s1, s2, s3, s4, s5, s6, s7⟩ := right_head h (by omega)
  cases t with
  | mk k n ls ks =>
    simp only [Tm.kind_mk, Tm.n_mk, Tm.lvls_mk, Tm.kids_mk] at *
    have hk : k = 1 ∨ k = 2 ∨ k = 3 ∨ (k = 4 ∨ k = 5 ∨ k = 6 ∨ k = 7) := by omega
    rcases hk with rfl | rfl | rfl | hk
    · have h1 := s2 rfl
      have h2 := s7 (by omega) (by omega)
      simp [kidsT] at r2
      refine .inl ⟨n.toNat, by omega, ?_⟩
      rw [List.length_eq_zero_iff.1 h2, r2, Int.toNat_of_nonneg h1.1]
    · simp [kidsT] at r2
      obtain ⟨l, rfl⟩ := List.length_eq_one_iff.1 (s6 rfl)
      exact .inr (.inl ⟨l, r4 l (by simp), by rw [r2, s5 (by omega) (by omega)]⟩)
    · simp [kidsT] at r2
      have h1 := s3 rfl
      exact .inr (.inr (.inl ⟨n.toNat, ls, by omega, s4, r4, by rw [r2, Int.toNat_of_nonneg h1.1]⟩))
    · have h2 := s7 (by omega) (by omega)
      have hkk : ((k.toNat : Nat) : Int) = k := by omega
      refine .inr (.inr (.inr ⟨k.toNat, ks, by omega, ?_, by rw [hkk]; exact r2, fun j hj => by rw [hkk]; exact r5 j hj⟩))
      rw [hkk, s5 (by omega) (by omega), List.length_eq_zero_iff.1 h2]
theorem rdKs_write {s : List Nat} {f : Nat → Nat → Nat → TR} : ∀ {ks : List Tm} {bl : List Nat} {a n : Nat} {r : List Nat}, ks.length = bl.length →
    (∀ (j : Nat) (h : j < ks.length) (h2 : j < bl.length) (a n : Nat) (r : List Nat), n + szT ks[j] ≤ 600 → s.drop a = textT ks[j] ++ r → f bl[j] a n = .ok ks[j] (a + (textT ks[j]).length) (n + szT ks[j])) →
    n + szTs ks ≤ 600 → s.drop a = ks.flatMap textT ++ r → rdKs f bl a n = .ok ks (a + (ks.flatMap textT).length) (n + szTs ks)
  | [], [], a, n, r, _, _, _, _ => by simp [rdKs, szTs]
  | [], _ :: _, _, _, _, h, _, _, _ => by simp at h
  | _ :: _, [], _, _, _, h, _, _, _ => by simp at h
  | k :: ks, b :: bl, a, n, r, hl, hf, hz, h => by
    rw [List.flatMap_cons, List.append_assoc] at h
    simp only [szTs] at hz
    have h1 := hf 0 (by simp) (by simp) a n _ (by simp; omega) h
    simp only [List.getElem_cons_zero] at h1
    have h2 := rdKs_write (f := f) (ks := ks) (bl := bl) (a := a + (textT k).length) (n := n + szT k) (by simpa using hl) (fun j h h2 => hf (j + 1) (by simpa using h) (by simpa using h2)) (by omega) (drop_app h)
    rw [rdKs_cons, h1]
    simp only
    rw [h2]
    simp only [KR.pre, List.flatMap_cons, List.length_append, List.cons_append, List.nil_append, szTs]
    rw [Nat.add_assoc, Nat.add_assoc]
theorem rdKs_cut {s : List Nat} {f : Nat → Nat → Nat → TR} : ∀ {ks : List Tm} {bl : List Nat} {a n : Nat} {t u : List Nat}, ks.length = bl.length →
    (∀ (j : Nat) (h : j < ks.length) (h2 : j < bl.length) (a n : Nat) (r : List Nat), n + szT ks[j] ≤ 600 → s.drop a = textT ks[j] ++ r → f bl[j] a n = .ok ks[j] (a + (textT ks[j]).length) (n + szT ks[j])) →
    (∀ (j : Nat) (h : j < ks.length) (h2 : j < bl.length) (a n : Nat) (t u : List Nat), n + szT ks[j] ≤ 600 → a ≤ s.length → s.drop a = t → t ++ u = textT ks[j] → u ≠ [] → f bl[j] a n = .bad 21) →
    n + szTs ks ≤ 600 → a ≤ s.length → s.drop a = t → t ++ u = ks.flatMap textT → u ≠ [] → rdKs f bl a n = .bad 21
  | [], [], a, n, t, u, _, _, _, _, _, _, h, hu => by simp at h; exact absurd h.2 hu
  | [], _ :: _, _, _, _, _, h, _, _, _, _, _, _, _ => by simp at h
  | _ :: _, [], _, _, _, _, h, _, _, _, _, _, _, _ => by simp at h
  | k :: ks, b :: bl, a, n, t, u, hl, hf, hc, hz, ha, h, ht, hu => by
    rw [List.flatMap_cons] at ht
    simp only [szTs] at hz
    rw [rdKs_cons]
    rcases cut_two ht hu with ⟨c, e1, e2⟩ | ⟨c, e1, e2⟩
    · have h1 := hc 0 (by simp) (by simp) a n t c (by simp; omega) ha h e1 e2
      simp only [List.getElem_cons_zero] at h1
      rw [h1]
    · rw [e1] at h
      have h1 := hf 0 (by simp) (by simp) a n c (by simp; omega) h
      simp only [List.getElem_cons_zero] at h1
      rw [h1]
      simp only
      rw [rdKs_cut (f := f) (ks := ks) (bl := bl) (by simpa using hl) (fun j h h2 => hf (j + 1) (by simpa using h) (by simpa using h2)) (fun j h h2 => hc (j + 1) (by simpa using h) (by simpa using h2)) (by omega) (drop_le ha h) (drop_app h) e2 hu]
      rfl
theorem kidsB_told {k b : Nat} (hk : k = 4 ∨ k = 5 ∨ k = 6 ∨ k = 7) : ((kidsB k b).length : Int) = kidsT k ∧ ∀ (j : Nat) (h : j < (kidsB k b).length), (((kidsB k b)[j] : Nat) : Int) = b + bindT k j := by
  rcases hk with rfl | rfl | rfl | rfl
  all_goals refine ⟨by simp [kidsB, kidsT], fun j h => ?_⟩
  · have : j = 0 ∨ j = 1 := by simp [kidsB] at h; omega
    rcases this with rfl | rfl <;> simp [kidsB, bindT]
  · have : j = 0 ∨ j = 1 := by simp [kidsB] at h; omega
    rcases this with rfl | rfl <;> simp [kidsB, bindT]
  · have : j = 0 ∨ j = 1 := by simp [kidsB] at h; omega
    rcases this with rfl | rfl <;> simp [kidsB, bindT]
  · have : j = 0 ∨ j = 1 ∨ j = 2 := by simp [kidsB] at h; omega
    rcases this with rfl | rfl | rfl <;> simp [kidsB, bindT]
set_option maxHeartbeats 2000000 in
theorem rdT_write (s : List Nat) : ∀ (d b : Nat) (t : Tm) (a n : Nat) (r : List Nat), b + d ≤ 900 → rightT t (1000 + b : Nat) 5 10 d = true → n + szT t ≤ 600 → s.drop a = textT t ++ r → rdT s d b a n = .ok t (a + (textT t).length) (n + szT t)
  | 0, b, t, a, n, r, _, h, _, _ => by have := (rightT_at h).1; omega
  | d + 1, b, t, a, n, r, hb, h, hz, hs => by
    have hsz : 1 ≤ szT t := by rw [szT_eq]; omega
    have hn : ¬ 600 ≤ n := by omega
    have h30 : ∀ k : Nat, k < 128 → k < 1099511627777 := fun k hk => by omega
    rcases right_form h (by omega) with ⟨N, hN, rfl⟩ | ⟨l, hl, rfl⟩ | ⟨N, ls, hN, hls, hl, rfl⟩ | ⟨k, ks, hk, rfl, hlen, hks⟩
    · rw [textT_1, List.append_assoc] at hs
      have g1 := numT_write (most := 1099511627777) (by omega) (by omega) hs
      have g2 := numT_write (most := 1000 + b) hN (by omega) (drop_app hs)
      unfold rdT
      rw [if_neg hn, g1]
      simp only
      rw [if_neg (by omega)]
      unfold partT
      rw [if_pos rfl, g2]
      simp only
      rw [if_neg (by omega), textT_1]
      simp [szT, szTs, Nat.add_assoc]
    · rw [textT_2, List.append_assoc] at hs
      have g1 := numT_write (most := 1099511627777) (by omega) (by omega) hs
      have g2 := rdLs_write (s := s) (ls := [l]) (fun x hx => by rw [List.mem_singleton.1 hx]; exact hl) (drop_app hs)
      unfold rdT
      rw [if_neg hn, g1]
      simp only
      rw [if_neg (by omega)]
      unfold partT
      rw [if_neg (by omega), if_pos rfl]
      rw [List.length_singleton] at g2
      rw [g2, textT_2]
      simp [LR.tm, szT, szTs, Nat.add_assoc]
    · rw [textT_3, List.append_assoc, List.append_assoc, List.append_assoc] at hs
      have g1 := numT_write (most := 1099511627777) (by omega) (by omega) hs
      have g2 := numT_write (most := 20) hN (by omega) (drop_app hs)
      have g3 := numT_write (most := 6) (by omega) (by omega) (drop_app (drop_app hs))
      have g4 := rdLs_write (s := s) (ls := ls) hl (drop_app (drop_app (drop_app hs)))
      unfold rdT
      rw [if_neg hn, g1]
      simp only
      rw [if_neg (by omega)]
      unfold partT
      rw [if_neg (by omega), if_neg (by omega), if_pos rfl, g2]
      simp only
      rw [if_neg (by omega), g3]
      simp only
      rw [if_neg (by omega), g4, textT_3]
      simp [LR.tm, szT, szTs, Nat.add_assoc]
    · obtain ⟨hB1, hB2⟩ := kidsB_told (b := b) hk
      rw [textT_k k (by omega) (by omega), List.append_assoc] at hs
      simp only [szT] at hz
      have g1 := numT_write (most := 1099511627777) (by omega) (by omega) hs
      have g2 := rdKs_write (s := s) (f := rdT s d) (ks := ks) (bl := kidsB k b) (n := n + 1) (by omega) (fun j h h2 a n r q1 q2 => by
        have e := hB2 j h2
        have hb1 : bindT k j ≤ 1 := by unfold bindT; split <;> omega
        refine rdT_write s d _ ks[j] a n r (by omega) ?_ q1 q2
        have := hks j h
        rwa [show ((d + 1 : Nat) : Int) - 1 = (d : Nat) by omega, show ((1000 + b : Nat) : Int) + bindT k j = ((1000 + (kidsB k b)[j] : Nat) : Int) by omega] at this) (by omega) (drop_app hs)
      unfold rdT
      rw [if_neg hn, g1]
      simp only
      rw [if_neg (by omega)]
      unfold partT
      rw [if_neg (by omega), if_neg (by omega), if_neg (by omega), if_pos hk, g2, textT_k k (by omega) (by omega)]
      simp [KR.tm, szT, Nat.add_assoc]
set_option maxHeartbeats 2000000 in
theorem rdT_cut (s : List Nat) : ∀ (d b : Nat) (t : Tm) (a n : Nat) (p u : List Nat), b + d ≤ 900 → rightT t (1000 + b : Nat) 5 10 d = true → n + szT t ≤ 600 → a ≤ s.length → s.drop a = p → p ++ u = textT t → u ≠ [] → rdT s d b a n = .bad 21
  | 0, b, t, a, n, p, u, _, h, _, _, _, _, _ => by have := (rightT_at h).1; omega
  | d + 1, b, t, a, n, p, u, hb, h, hz, ha, hs, hp, hu => by
    have hsz : 1 ≤ szT t := by rw [szT_eq]; omega
    have hn : ¬ 600 ≤ n := by omega
    rcases right_form h (by omega) with ⟨N, hN, rfl⟩ | ⟨l, hl, rfl⟩ | ⟨N, ls, hN, hls, hl, rfl⟩ | ⟨k, ks, hk, rfl, hlen, hks⟩
    · rw [textT_1] at hp
      rcases num_cut (by omega) ha hs hp hu with h1 | ⟨c, rfl, hc⟩
      · unfold rdT
        rw [if_neg hn, h1]
        simp
      · have g1 := numT_write (most := 1099511627777) (by omega) (by omega) hs
        rcases num_cut (k := N) (A := []) (by omega) (drop_le ha hs) (drop_app hs) (by rw [List.append_nil]; exact hc) hu with h1 | ⟨c2, rfl, hc2⟩
        · unfold rdT
          rw [if_neg hn, g1]
          simp only
          rw [if_neg (by omega)]
          unfold partT
          rw [if_pos rfl, h1]
          simp
        · simp at hc2; exact absurd hc2.2 hu
    · rw [textT_2] at hp
      rcases num_cut (by omega) ha hs hp hu with h1 | ⟨c, rfl, hc⟩
      · unfold rdT
        rw [if_neg hn, h1]
        simp
      · have g1 := numT_write (most := 1099511627777) (by omega) (by omega) hs
        have g2 := rdLs_cut (s := s) (ls := [l]) (fun x hx => by rw [List.mem_singleton.1 hx]; exact hl) (drop_le ha hs) (drop_app hs) hc hu
        unfold rdT
        rw [if_neg hn, g1]
        simp only
        rw [if_neg (by omega)]
        unfold partT
        rw [if_neg (by omega), if_pos rfl]
        rw [List.length_singleton] at g2
        rw [g2]
        rfl
    · rw [textT_3] at hp
      rcases num_cut (by omega) ha hs hp hu with h1 | ⟨c, rfl, hc⟩
      · unfold rdT
        rw [if_neg hn, h1]
        simp
      · have g1 := numT_write (most := 1099511627777) (by omega) (by omega) hs
        have ha2 := drop_le ha hs
        have hs2 := drop_app hs
        rcases num_cut (by omega) ha2 hs2 hc hu with h1 | ⟨c2, rfl, hc2⟩
        · unfold rdT
          rw [if_neg hn, g1]
          simp only
          rw [if_neg (by omega)]
          unfold partT
          rw [if_neg (by omega), if_neg (by omega), if_pos rfl, h1]
          simp
        · have g2 := numT_write (most := 20) hN (by omega) hs2
          have ha3 := drop_le ha2 hs2
          have hs3 := drop_app hs2
          rcases num_cut (by omega) ha3 hs3 hc2 hu with h1 | ⟨c3, rfl, hc3⟩
          · unfold rdT
            rw [if_neg hn, g1]
            simp only
            rw [if_neg (by omega)]
            unfold partT
            rw [if_neg (by omega), if_neg (by omega), if_pos rfl, g2]
            simp only
            rw [if_neg (by omega), h1]
            simp
          · have g3 := numT_write (most := 6) (by omega) (by omega) hs3
            have g4 := rdLs_cut (s := s) (ls := ls) hl (drop_le ha3 hs3) (drop_app hs3) hc3 hu
            unfold rdT
            rw [if_neg hn, g1]
            simp only
            rw [if_neg (by omega)]
            unfold partT
            rw [if_neg (by omega), if_neg (by omega), if_pos rfl, g2]
            simp only
            rw [if_neg (by omega), g3]
            simp only
            rw [if_neg (by omega), g4]
            rfl
    · obtain ⟨hB1, hB2⟩ := kidsB_told (b := b) hk
      rw [textT_k k (by omega) (by omega)] at hp
      simp only [szT] at hz
      rcases num_cut (by omega) ha hs hp hu with h1 | ⟨c, rfl, hc⟩
      · unfold rdT
        rw [if_neg hn, h1]
        simp
      · have g1 := numT_write (most := 1099511627777) (by omega) (by omega) hs
        have hr : ∀ (j : Nat) (h : j < ks.length) (h2 : j < (kidsB k b).length), rightT ks[j] (1000 + (kidsB k b)[j] : Nat) 5 10 d = true ∧ (kidsB k b)[j] + d ≤ 900 := fun j h h2 => by
          have e := hB2 j h2
          have hb1 : bindT k j ≤ 1 := by unfold bindT; split <;> omega
          have := hks j h
          rw [show ((d + 1 : Nat) : Int) - 1 = (d : Nat) by omega, show ((1000 + b : Nat) : Int) + bindT k j = ((1000 + (kidsB k b)[j] : Nat) : Int) by omega] at this
          exact ⟨this, by omega⟩
        have g2 := rdKs_cut (s := s) (f := rdT s d) (ks := ks) (bl := kidsB k b) (n := n + 1) (by omega) (fun j h h2 a n r q1 q2 => rdT_write s d _ ks[j] a n r (hr j h h2).2 (hr j h h2).1 q1 q2)
          (fun j h h2 a n t u q1 q2 q3 q4 q5 => rdT_cut s d _ ks[j] a n t u (hr j h h2).2 (hr j h h2).1 q1 q2 q3 q4 q5) (by omega) (drop_le ha hs) (drop_app hs) hc hu
        unfold rdT
        rw [if_neg hn, g1]
        simp only
        rw [if_neg (by omega)]
        unfold partT
        rw [if_neg (by omega), if_neg (by omega), if_neg (by omega), if_pos hk, g2]
        rfl
end Pi


set_option linter.unusedSimpArgs false
set_option linter.unusedVariables false
namespace Pi
theorem rightS_wide (l : L) : ∀ (p q p' q' d : Int), p ≤ p' → q ≤ q' → rightS l p q d = true → rightS l p' q' d = true := by
  induction l using L.ind with
  | h l ih =>
    intro p q p' q' d hp hq h
    obtain ⟨h1, h2, h3, h4⟩ := right_kid h
    rw [rightS_eq]
    simp only [Bool.and_eq_true, decide_eq_true_eq, Bool.not_eq_true', List.any_eq_false, Bool.not_eq_false]
    refine ⟨⟨⟨h1, h2⟩, ?_⟩, fun k hk => ih k hk p q p' q' (d - 1) hp hq (h4 k hk)⟩
    unfold namedS at h3 ⊢
    split
    · rename_i hk; rw [if_pos hk] at h3; simp at h3 ⊢; omega
    · rename_i hk; rw [if_neg hk] at h3
      split
      · rename_i hk; rw [if_pos hk] at h3; simp at h3 ⊢; omega
      · rename_i hk; rw [if_neg hk] at h3; exact h3
theorem mkS_R (l : List Nat) (p q d i : Nat) (hp : p ≤ 5) (hq : q ≤ 10) (hd : d ≤ 4) : RightS (mkS l p q (d + 1) i).1 5 10 = true := by
  have h1 := mkS_right l p q d i
  have h2 := mkS_sz l p q d i
  have h3 : 2 ^ (d + 1) ≤ 2 ^ 5 := Nat.pow_le_pow_right (by omega) (by omega)
  exact RightS_of (p := 5) (q := 10) (by omega) (by omega) (by omega) (rightS_up _ 5 10 _ 12 (by omega) (rightS_wide _ p q 5 10 _ (by omega) (by omega) h1))
theorem lvlsT_R (l : List Nat) : ∀ c i, (∀ x ∈ (lvlsT l c i).1, RightS x 5 10 = true ∧ L.Ok x)
  | 0, i => by simp [lvlsT]
  | c + 1, i => by
    intro x hx
    simp only [lvlsT, List.mem_cons] at hx
    rcases hx with rfl | hx
    · exact ⟨mkS_R l 3 2 1 i (by omega) (by omega) (by omega), mkS_ok l 3 2 (by omega) (by omega) 2 i⟩
    · exact lvlsT_R l c _ x hx
theorem leafT_good (l : List Nat) (v k i V : Nat) (D : Int) (hv : 0 < v) (hV : v ≤ V) (hD : 0 < D) (hb : V ≤ 1000000) : (leafT l v k i).1.Ok ∧ rightT (leafT l v k i).1 V 5 10 D = true ∧ szT (leafT l v k i).1 = 1 := by
  unfold leafT
  split
  · have hp := pickS_lt l i v hv
    refine ⟨.mk (by simp) (by simp) (by omega) (by omega) (by simp) (by simp), rightT_of hD (by simp [kidsT]) ?_ (by simp) (by simp), by simp [szT_eq, szTs]⟩
    simp [namedT]; omega
  · split
    · have ho := mkS_ok l 3 2 (by omega) (by omega) 3 i
      have hr := mkS_R l 3 2 2 i (by omega) (by omega) (by omega)
      refine ⟨.mk (by simp) (by simp) (by omega) (by omega) (by simpa using ho) (by simp), rightT_of hD (by simp [kidsT]) (by simp [namedT]) (by simpa using hr) (by simp), by simp [szT_eq, szTs]⟩
    · have hp := pickS_lt l i 4 (by omega)
      have hc := pickS_lt l (i + 1) 3 (by omega)
      have hl := (lvlsT_bd l (pickS l (i + 1) 3) (i + 2)).2.2
      have hR := lvlsT_R l (pickS l (i + 1) 3) (i + 2)
      refine ⟨Tm.Ok.mk (k := 3) (n := (pickS l i 4 : Nat)) (ls := (lvlsT l (pickS l (i + 1) 3) (i + 2)).1) (ks := []) (by omega) (by simp) (by omega) (by omega) (fun x hx => (hR x hx).2) (by simp), rightT_of hD (by simp [kidsT]) ?_ (fun x hx => (hR x hx).1) (by simp), by simp [szT_eq, szTs]⟩
      simp only [namedT, Tm.kind_mk, Tm.n_mk, Tm.lvls_mk, hl]
      simp
      exact ⟨decide_eq_true (by omega), by omega⟩
theorem two_good {k : Int} {a b : Tm} {V : Int} {D : Int} (hk : k = 4 ∨ k = 5 ∨ k = 6) (oa : a.Ok) (ob : b.Ok) (hD : 0 < D) (ha : rightT a V 5 10 D = true) (hb : rightT b (V + (if k = 4 then 0 else 1)) 5 10 D = true) : (Tm.mk k 0 [] [a, b]).Ok ∧ rightT (.mk k 0 [] [a, b]) V 5 10 (D + 1) = true := by
  refine ⟨.mk (by simp) (by simp) (by omega) (by omega) (by simp) (by simp [oa, ob]), rightT_of (by omega) ?_ ?_ (by simp) ?_⟩
  · rcases hk with rfl | rfl | rfl <;> simp [kidsT]
  · rcases hk with rfl | rfl | rfl <;> simp [namedT]
  · intro j hj
    rw [show D + 1 - 1 = D by omega]
    have hj2 : j < 2 := by simpa using hj
    rcases (by omega : j = 0 ∨ j = 1) with rfl | rfl
    · rcases hk with rfl | rfl | rfl <;> simpa [bindT] using ha
    · rcases hk with rfl | rfl | rfl <;> simpa [bindT] using hb
theorem let_good {a b c : Tm} {V : Int} {D : Int} (oa : a.Ok) (ob : b.Ok) (oc : c.Ok) (hD : 0 < D) (ha : rightT a V 5 10 D = true) (hb : rightT b V 5 10 D = true) (hc : rightT c (V + 1) 5 10 D = true) : (Tm.mk 7 0 [] [a, b, c]).Ok ∧ rightT (.mk 7 0 [] [a, b, c]) V 5 10 (D + 1) = true := by
  refine ⟨.mk (by simp) (by simp) (by omega) (by omega) (by simp) (by simp [oa, ob, oc]), rightT_of (by omega) (by simp [kidsT]) (by simp [namedT]) (by simp) ?_⟩
  intro j hj
  rw [show D + 1 - 1 = D by omega]
  have hj2 : j < 3 := by simpa using hj
  rcases (by omega : j = 0 ∨ j = 1 ∨ j = 2) with rfl | rfl | rfl
  · simpa [bindT] using ha
  · simpa [bindT] using hb
  · simpa [bindT] using hc
theorem szT_2 (k n : Int) (ls : List L) (a b : Tm) : szT (.mk k n ls [a, b]) = 1 + szT a + szT b := by rw [szT_eq]; simp [szTs]; omega
theorem szT_3 (k n : Int) (ls : List L) (a b c : Tm) : szT (.mk k n ls [a, b, c]) = 1 + szT a + szT b + szT c := by rw [szT_eq]; simp [szTs]; omega
theorem mkT_good (l : List Nat) : ∀ (d v i V : Nat), 0 < v → v ≤ V → V + d ≤ 1000000 → (mkT l d v i).1.Ok ∧ rightT (mkT l d v i).1 V 5 10 ((d : Int) + 1) = true ∧ szT (mkT l d v i).1 < 4 ^ (d + 1)
  | 0, v, i, V, hv, hV, hb => by
    obtain ⟨h1, h2, h3⟩ := leafT_good l v (pickS l i 12 % 4) (i + 1) V ((0 : Nat) + 1) hv hV (by omega) (by omega)
    exact ⟨h1, h2, by simp only [mkT]; omega⟩
  | d + 1, v, i, V, hv, hV, hb => by
    have hp : 4 ^ (d + 1 + 1) = 4 * 4 ^ (d + 1) := by rw [Nat.pow_succ, Nat.mul_comm]
    have hq : 1 ≤ 4 ^ (d + 1) := Nat.one_le_pow _ _ (by omega)
    simp only [mkT]
    rw [hp]
    split
    · obtain ⟨h1, h2, h3⟩ := leafT_good l v (pickS l i 12) (i + 1) V ((d + 1 : Nat) + 1) hv hV (by omega) (by omega)
      exact ⟨h1, h2, by omega⟩
    · obtain ⟨a1, a2, a3⟩ := mkT_good l d v (i + 1) V hv hV (by omega)
      split
      · obtain ⟨b1, b2, b3⟩ := mkT_good l d v (mkT l d v (i + 1)).2 V hv hV (by omega)
        obtain ⟨c1, c2⟩ := two_good (k := 4) (.inl rfl) a1 b1 (by omega) a2 (by simpa using b2)
        exact ⟨c1, c2, by simp only [szT_2]; omega⟩
      · obtain ⟨b1, b2, b3⟩ := mkT_good l d (v + 1) (mkT l d v (i + 1)).2 (V + 1) (by omega) (by omega) (by omega)
        split
        · obtain ⟨c1, c2⟩ := two_good (k := 5) (.inr (.inl rfl)) a1 b1 (by omega) a2 (by simpa using b2)
          exact ⟨c1, c2, by simp only [szT_2]; omega⟩
        · split
          · obtain ⟨c1, c2⟩ := two_good (k := 6) (.inr (.inr rfl)) a1 b1 (by omega) a2 (by simpa using b2)
            exact ⟨c1, c2, by simp only [szT_2]; omega⟩
          · obtain ⟨b1, b2, b3⟩ := mkT_good l d v (mkT l d v (i + 1)).2 V hv hV (by omega)
            obtain ⟨e1, e2, e3⟩ := mkT_good l d (v + 1) (mkT l d v (mkT l d v (i + 1)).2).2 (V + 1) (by omega) (by omega) (by omega)
            obtain ⟨c1, c2⟩ := let_good a1 b1 e1 (by omega) a2 b2 (by simpa using e2)
            exact ⟨c1, c2, by simp only [szT_3]; omega⟩
theorem rightT_up (t : Tm) : ∀ (v p q d d' : Int), d ≤ d' → rightT t v p q d = true → rightT t v p q d' = true := by
  induction t using Tm.ind with
  | h t ih =>
    intro v p q d d' hd h
    obtain ⟨h1, h2, h3, h4, h5⟩ := rightT_at h
    exact rightT_of (by omega) h2 h3 h4 (fun j hj => ih _ (List.getElem_mem hj) _ p q _ _ (by omega) (h5 j hj))
def madeT (l : List Nat) : Tm := (mkT l 3 3 0).1
theorem madeT_good (l : List Nat) : (madeT l).Ok ∧ rightT (madeT l) 1000 5 10 30 = true ∧ szT (madeT l) ≤ 255 ∧ RightT (madeT l) 1000 5 10 = true := by
  obtain ⟨h1, h2, h3⟩ := mkT_good l 3 3 0 1000 (by omega) (by omega) (by omega)
  have h4 : rightT (madeT l) 1000 5 10 30 = true := rightT_up _ _ _ _ _ _ (by omega) h2
  have h5 : szT (madeT l) ≤ 255 := by unfold madeT; have : 4 ^ (3 + 1) = 256 := rfl; omega
  have h6 := parts_le (madeT l) 601
  refine ⟨h1, h4, h5, ?_⟩
  unfold RightT
  rw [if_neg (by omega)]
  simp only [Bool.and_eq_true, decide_eq_true_eq]
  exact ⟨by omega, h4⟩
theorem law13_Made.a (l : List Nat) (hb : Byt l) : Ans ctx law13_Made.n [sV cU l] (.ag (cT (madeT l))) := by
  refine ans law13_Made.f ?_
  have hfT : ctx.frz law13_Term.n = false := rfl
  simp +contextual (disch := omega) [Nat.add_assoc, Int.add_assoc, if_pos, if_neg, -Int.not_lt, -Int.not_le, -Nat.not_lt, -Nat.not_le, -List.length_flatMap, law13_Made.c]
  rw [CallX_op (by rfl)]
  refine openg_w rfl rfl (.inl rfl) ?_
  rw [hfT]
  show Pi.w ctx (envOf [.p 3 0, .i .i64 ((3 : Nat) : Int), .i .i64 (((3 : Nat) : Int) + 1)]) _ _ _ _ _ _ _
  refine law13_Term.w l hb 3 3 (by omega) 3 0 (by omega) (by omega) (by omega) (by omega) (by simp +contextual (disch := omega) [Nat.add_assoc, Int.add_assoc, if_pos, if_neg, -Int.not_lt, -Int.not_le, -Nat.not_lt, -Nat.not_le, -List.length_flatMap]) ?_
  intro cs m' x' h1 h2 h3 h4 h5
  have h0 := h3 0 (by omega) (by omega)
  simp (disch := omega) at h0
  have ht : cs.take 4 = cs := List.take_of_length_le (by omega)
  have hd : cs.drop 4 = [] := List.drop_of_length_le (by omega)
  obtain ⟨ids, q⟩ := (h5.up (m' := m'.set 0 (some (.cells cs false))) (Nat.le_refl _) (Nat.le_refl _) (by simp +contextual (disch := omega) [Nat.add_assoc, Int.add_assoc, if_pos, if_neg, -Int.not_lt, -Int.not_le, -Nat.not_lt, -Nat.not_le, -List.length_flatMap])).at 40 (by omega)
  simp +contextual (disch := omega) [Nat.add_assoc, Int.add_assoc, if_pos, if_neg, -Int.not_lt, -Int.not_le, -Nat.not_lt, -Nat.not_le, -List.length_flatMap, h0, h1, ht, hd, q, madeT]
end Pi


set_option linter.unusedSimpArgs false
set_option linter.unusedVariables false
namespace Pi
theorem textL_byt (l : L) : Byt (textL l) := by
  induction l using L.ind with
  | h l ih =>
    rw [textL_eq]
    refine Byt.app (Byt.app (digs_byt _) ?_) ?_
    · split
      · exact digs_byt _
      · exact .nil
    · intro x hx
      obtain ⟨k, hk, hx⟩ := List.mem_flatMap.1 hx
      exact ih k hk x hx
end Pi


set_option linter.unusedSimpArgs false
set_option linter.unusedVariables false
namespace Pi
theorem textT_byt (t : Tm) : Byt (textT t) := by
  induction t using Tm.ind with
  | h t ih =>
    rw [textT_eq]
    refine Byt.app (Byt.app ?_ ?_) ?_
    · unfold headT
      refine (digs_byt _).app ?_
      split
      · exact digs_byt _
      · split
        · exact (digs_byt _).app (digs_byt _)
        · exact .nil
    · intro x hx
      obtain ⟨l, hl, hx⟩ := List.mem_flatMap.1 hx
      exact textL_byt l x hx
    · intro x hx
      obtain ⟨l, hl, hx⟩ := List.mem_flatMap.1 hx
      exact ih l hl x hx
theorem textT_pos (t : Tm) : 0 < (textT t).length := by
  rw [textT_eq]
  have := List.length_pos_iff.2 (digs_ne t.kind.toNat)
  unfold headT
  simp only [List.length_append]
  omega
theorem mkS_text (l : List Nat) (p q d i : Nat) (hp : p ≤ 5) (hq : q ≤ 10) (hd : d ≤ 2) : (textL (mkS l p q (d + 1) i).1).length ≤ 14 := by
  have h := textL_len (mkS l p q (d + 1) i).1 (d := 3) (rightS_up _ 5 10 _ 3 (by omega) (rightS_wide _ p q 5 10 _ (by omega) (by omega) (mkS_right l p q d i)))
  simpa using h
theorem lvlsT_text (l : List Nat) : ∀ c i, ((lvlsT l c i).1.flatMap textL).length ≤ 14 * c
  | 0, i => by simp [lvlsT]
  | c + 1, i => by
    have h1 : (textL (mkS l 3 2 2 i).1).length ≤ 14 := mkS_text l 3 2 1 i (by omega) (by omega) (by omega)
    have h2 := lvlsT_text l c (mkS l 3 2 2 i).2
    simp only [lvlsT, List.flatMap_cons, List.length_append]
    omega
theorem leafT_text (l : List Nat) (v k i : Nat) (hv : 0 < v) (hV : v ≤ 100) : (textT (leafT l v k i).1).length ≤ 40 := by
  unfold leafT
  split
  · have hp := pickS_lt l i v hv
    simp only [textT_1, digs_lt (show 1 < 128 by omega), digs_lt (show pickS l i v < 128 by omega)]
    simp
  · split
    · have h1 : (textL (mkS l 3 2 3 i).1).length ≤ 14 := mkS_text l 3 2 2 i (by omega) (by omega) (by omega)
      simp only [textT_2, digs_lt (show 2 < 128 by omega)]
      simp
      omega
    · have hp := pickS_lt l i 4 (by omega)
      have hc := pickS_lt l (i + 1) 3 (by omega)
      have hl := (lvlsT_bd l (pickS l (i + 1) 3) (i + 2)).2.2
      have h1 := lvlsT_text l (pickS l (i + 1) 3) (i + 2)
      simp only [textT_3, hl, digs_lt (show 3 < 128 by omega), digs_lt (show pickS l i 4 < 128 by omega), digs_lt (show pickS l (i + 1) 3 < 128 by omega), List.length_append, List.length_cons, List.length_nil]
      omega
theorem textT_2k (k : Nat) (h : k = 4 ∨ k = 5 ∨ k = 6) (a b : Tm) : (textT (.mk k 0 [] [a, b])).length = 1 + (textT a).length + (textT b).length := by
  rw [textT_k k (by omega) (by omega), digs_lt (by omega)]
  simp
  omega
theorem textT_3k (a b c : Tm) : (textT (.mk (7 : Nat) 0 [] [a, b, c])).length = 1 + (textT a).length + (textT b).length + (textT c).length := by
  rw [textT_k 7 (by omega) (by omega), digs_lt (by omega)]
  simp
  omega
theorem mkT_text (l : List Nat) : ∀ (d v i : Nat), 0 < v → v + d ≤ 100 → (textT (mkT l d v i).1).length + 10 ≤ 50 * 3 ^ d
  | 0, v, i, hv, hb => by
    have := leafT_text l v (pickS l i 12 % 4) (i + 1) hv (by omega)
    simp only [mkT]
    omega
  | d + 1, v, i, hv, hb => by
    have hp : 3 ^ (d + 1) = 3 * 3 ^ d := by rw [Nat.pow_succ, Nat.mul_comm]
    have hq : 1 ≤ 3 ^ d := Nat.one_le_pow _ _ (by omega)
    have h0 := leafT_text l v (pickS l i 12) (i + 1) hv (by omega)
    have h1 := mkT_text l d v (i + 1) hv (by omega)
    have h2 := mkT_text l d v (mkT l d v (i + 1)).2 hv (by omega)
    have h3 := mkT_text l d (v + 1) (mkT l d v (i + 1)).2 (by omega) (by omega)
    have h4 := mkT_text l d (v + 1) (mkT l d v (mkT l d v (i + 1)).2).2 (by omega) (by omega)
    simp only [mkT]
    rw [hp]
    split
    · omega
    · split
      · have : (textT (.mk 4 0 [] [(mkT l d v (i + 1)).1, (mkT l d v (mkT l d v (i + 1)).2).1])).length = _ := textT_2k 4 (by omega) _ _
        refine Nat.le_trans (Nat.add_le_add_right (Nat.le_of_eq this) 10) ?_
        omega
      · split
        · have : (textT (.mk 5 0 [] [(mkT l d v (i + 1)).1, (mkT l d (v + 1) (mkT l d v (i + 1)).2).1])).length = _ := textT_2k 5 (by omega) _ _
          refine Nat.le_trans (Nat.add_le_add_right (Nat.le_of_eq this) 10) ?_
          omega
        · split
          · have : (textT (.mk 6 0 [] [(mkT l d v (i + 1)).1, (mkT l d (v + 1) (mkT l d v (i + 1)).2).1])).length = _ := textT_2k 6 (by omega) _ _
            refine Nat.le_trans (Nat.add_le_add_right (Nat.le_of_eq this) 10) ?_
            omega
          · have : (textT (.mk 7 0 [] [(mkT l d v (i + 1)).1, (mkT l d v (mkT l d v (i + 1)).2).1, (mkT l d (v + 1) (mkT l d v (mkT l d v (i + 1)).2).2).1])).length = _ := textT_3k _ _ _
            refine Nat.le_trans (Nat.add_le_add_right (Nat.le_of_eq this) 10) ?_
            omega
theorem madeT_text (l : List Nat) : (textT (madeT l)).length ≤ 1400 := by
  have := mkT_text l 3 3 0 (by omega) (by omega)
  unfold madeT
  have h : 3 ^ 3 = 27 := rfl
  omega
set_option maxHeartbeats 1000000 in
set_option maxRecDepth 10000 in
theorem law14_TcodeBack.a (k : List Nat) (hk : k.length ≤ 9223372036854775807) (hb0 : Byt k) (t : ByteArray) (c : Nat) (hc : c < 256) : Ans ctx law14_TcodeBack.n [sV cU k, .s t, .i .u8 c] (.b true) := by
  obtain ⟨mo, rfl, hmo⟩ := bs_of t
  obtain ⟨more, hmb, hml, hmc⟩ : ∃ more, Byt more ∧ more.length ≤ 100 ∧ more = (if mo.length > 100 then [] else mo) := by
    by_cases h : mo.length > 100
    · exact ⟨[], .nil, by simp, by rw [if_pos h]⟩
    · exact ⟨mo, hmo, by omega, by rw [if_neg h]⟩
  have hM : Ans ctx law13_Made.n [sV cU k] (.ag (cT (madeT k))) := law13_Made.a k hb0
  obtain ⟨ok, hr, hz, hR⟩ := madeT_good k
  have hlen := madeT_text k
  generalize madeT k = l at *
  have p1 := tcode_Put.a l ok
  unfold putTm at p1
  rw [if_pos hR] at p1
  have hpos := textT_pos l
  have htb := textT_byt l
  have g1 := tcode_Get.a (textT l ++ more) 0 (htb.app hmb) (by rw [List.length_append]; omega)
  have e1 : getTV (textT l ++ more) 0 = trV (.ok l (textT l).length (szT l)) := by
    unfold getTV
    rw [if_neg (by omega)]
    have := rdT_write (textT l ++ more) 30 0 l 0 0 more (by omega) hr (by omega) (by simp)
    rw [show ((0 : Int).toNat) = 0 from rfl, this, Nat.zero_add, Nat.zero_add]
  rw [e1] at g1
  have hcut : c % (textT l).length < (textT l).length := Nat.mod_lt _ hpos
  have g2 := tcode_Get.a ((textT l).take (c % (textT l).length)) 0 (fun x hx => htb x (List.mem_of_mem_take hx)) (by rw [List.length_take]; omega)
  have e2 : getTV ((textT l).take (c % (textT l).length)) 0 = trV (.bad 21) := by
    unfold getTV
    rw [if_neg (by omega)]
    have := rdT_cut ((textT l).take (c % (textT l).length)) 30 0 l 0 0 ((textT l).take (c % (textT l).length)) ((textT l).drop (c % (textT l).length)) (by omega) hr (by omega) (by omega) (by simp) (List.take_append_drop _ _) (fun h => by
      have := congrArg List.length h
      simp at this
      omega)
    rw [show ((0 : Int).toNat) = 0 from rfl, this]
  rw [e2] at g2
  refine ans law14_TcodeBack.f ?_
  unfold trV at g1 g2
  generalize textT l = o at *
  have hcn : c % o.length = ((c : Int) % (o.length : Int)).toNat := by rw [show (c : Int) % (o.length : Int) = ((c % o.length : Nat) : Int) from rfl, Int.toNat_natCast]
  rw [hcn] at g2
  by_cases hm : mo.length > 100
  · rw [if_pos hm] at hmc
    subst hmc
    have hm' : (mo.length : Int) > 100 := by omega
    rw [List.append_nil] at g1
    simp +contextual (disch := omega) [Nat.add_assoc, Int.add_assoc, if_pos, if_neg, -Int.not_lt, -Int.not_le, -Nat.not_lt, -Nat.not_le, -List.length_flatMap, law14_TcodeBack.c, hm', ansK hM, ansK p1, ansK g1, ansK (ref13_Same.a l ok), Int.tmod_eq_emod_of_nonneg, ansK g2]
  · rw [if_neg hm] at hmc
    subst hmc
    have hm' : ¬ (more.length : Int) > 100 := by omega
    simp +contextual (disch := omega) [Nat.add_assoc, Int.add_assoc, if_pos, if_neg, -Int.not_lt, -Int.not_le, -Nat.not_lt, -Nat.not_le, -List.length_flatMap, law14_TcodeBack.c, hm', ansK hM, ansK p1, ansK g1, ansK (ref13_Same.a l ok), Int.tmod_eq_emod_of_nonneg, ansK g2]
end Pi

