/- Contracts: levels as bytes (layer 3): what is written is what the document says. -/
import Derived.Test.YtdeichdplcafcaaC03f
set_option linter.unusedSimpArgs false
set_option linter.unusedVariables false
namespace Pi
/-! Made levels are right; what is more. -/
theorem mkS_right (l : List Nat) (p q : Nat) (d : Nat) : ∀ i, rightS (mkS l p q (d + 1) i).1 p q ((d : Int) + 1) = true := by
  induction d with
  | zero =>
    intro i
    rw [mkS_eq]
    simp only [if_true]
    have hk : pickS l i 10 % 4 < 4 := by omega
    generalize pickS l i 10 % 4 = k at hk
    split
    · rename_i h
      have := pickS_lt l (i + 1) p (by omega)
      rw [rightS_eq]
      simp [kidsS, namedS]
      omega
    · split
      · rename_i h
        have := pickS_lt l (i + 1) q (by omega)
        rw [rightS_eq]
        simp [kidsS, namedS]
        omega
      · rw [rightS_eq]
        simp [kidsS, namedS]
  | succ d ih =>
    intro i
    rw [mkS_eq]
    simp only
    generalize (if d + 1 = 0 then pickS l i 10 % 4 else pickS l i 10) = k
    have e1 : (((d + 1 : Nat) : Int) + 1 - 1) = (d : Int) + 1 := by omega
    split
    · rename_i h
      have := pickS_lt l (i + 1) p (by omega)
      rw [rightS_eq]
      simp [kidsS, namedS]
      omega
    · split
      · rename_i h
        have := pickS_lt l (i + 1) q (by omega)
        rw [rightS_eq]
        simp [kidsS, namedS]
        omega
      · split
        · rw [rightS_eq]
          simp [kidsS, namedS]
          omega
        · split
          · rw [rightS_eq, e1]
            simp [kidsS, namedS, ih]
            omega
          · split <;> (rw [rightS_eq, e1]; simp [kidsS, namedS, ih]; omega)
mutual
def szL (l : L) : Nat := match l with | .mk _ _ ks => 1 + szLs ks
def szLs (l : List L) : Nat := match l with | [] => 0 | a :: r => szL a + szLs r
end
theorem nodesL_le (ks : List L) (h : ∀ k ∈ ks, ∀ m, nodesS k m ≤ szL k) : ∀ (m n : Int), nodesL ks m n ≤ n + szLs ks := by
  induction ks with
  | nil => intro m n; simp [nodesL, szLs]
  | cons k r ih =>
    intro m n
    simp only [nodesL, szLs]
    have h1 := h k (by simp)
    have h2 := ih (fun k hk => h k (by simp [hk]))
    split
    · have := h1 (m - n)
      have := h2 m (n + nodesS k (m - n))
      omega
    · have := h2 m n
      omega
theorem nodesS_le (l : L) : ∀ m, nodesS l m ≤ szL l := by
  induction l using L.ind with
  | h l ih =>
    intro m
    cases l with
    | mk k n ks =>
      have := nodesL_le ks ih m 1
      simp only [nodesS, szL]
      omega
theorem mkS_sz (l : List Nat) (p q : Nat) (d : Nat) : ∀ i, szL (mkS l p q (d + 1) i).1 + 1 ≤ 2 ^ (d + 1) := by
  induction d with
  | zero =>
    intro i
    rw [mkS_eq]
    simp only [if_true]
    have hk : pickS l i 10 % 4 < 4 := by omega
    split
    · simp [szL, szLs]
    · split
      · simp [szL, szLs]
      · simp [szL, szLs]
  | succ d ih =>
    intro i
    have h0 : 2 ^ (d + 1 + 1) = 2 * 2 ^ (d + 1) := by rw [Nat.pow_succ, Nat.mul_comm]
    have h0' : 2 ^ (d + 2) = 2 * 2 ^ (d + 1) := h0
    have h1 : 2 ≤ 2 ^ (d + 1) := by
      calc 2 = 2 ^ 1 := rfl
        _ ≤ 2 ^ (d + 1) := Nat.pow_le_pow_right (by omega) (by omega)
    rw [mkS_eq]
    simp only
    generalize (if d + 1 = 0 then pickS l i 10 % 4 else pickS l i 10) = k
    have a1 := ih (i + 1)
    have a2 := ih (mkS l p q (d + 1) (i + 1)).2
    split
    · (try dsimp only); (try simp only [szL, szLs]); omega
    · split
      · (try dsimp only); (try simp only [szL, szLs]); omega
      · split
        · (try dsimp only); (try simp only [szL, szLs]); omega
        · split
          · (try dsimp only); (try simp only [szL, szLs]); omega
          · split <;> ((try dsimp only); (try simp only [szL, szLs]); omega)
theorem rightS_up (l : L) : ∀ (p q d d' : Int), d ≤ d' → rightS l p q d = true → rightS l p q d' = true := by
  induction l using L.ind with
  | h l ih =>
    intro p q d d' hd h
    obtain ⟨h1, h2, h3, h4⟩ := right_kid h
    rw [rightS_eq]
    simp only [Bool.and_eq_true, decide_eq_true_eq, Bool.not_eq_true', List.any_eq_false, Bool.not_eq_false]
    exact ⟨⟨⟨by omega, h2⟩, h3⟩, fun k hk => ih k hk p q (d - 1) (d' - 1) (by omega) (h4 k hk)⟩
end Pi


set_option linter.unusedSimpArgs false
set_option linter.unusedVariables false
namespace Pi
theorem madeS_right (l : List Nat) (p q : Nat) : rightS (madeS l p q) p q 5 = true := by
  have := mkS_right l p q 4 0
  simpa [madeS] using this
theorem madeS_sz (l : List Nat) (p q : Nat) : szL (madeS l p q) ≤ 31 := by
  have := mkS_sz l p q 4 0
  simp at this
  unfold madeS
  omega
theorem RightS_of {l : L} {p q : Nat} (hp : p ≤ 5) (hq : q ≤ 10) (hz : szL l ≤ 100) (h : rightS l p q 12 = true) : RightS l p q = true := by
  unfold RightS
  have := nodesS_le l 101
  rw [if_neg (by omega)]
  simp [h]
  omega
end Pi


set_option linter.unusedSimpArgs false
set_option linter.unusedVariables false
namespace Pi
end Pi


set_option linter.unusedSimpArgs false
set_option linter.unusedVariables false
namespace Pi
theorem getS_one {s : List Nat} {a n : Nat} {r : List Nat} (hn : n < 128) (h : s.drop a = n :: r) : getS s a = (n, a + 1, 0) := by
  have ha : a < s.length := by
    have := congrArg List.length h
    simp at this
    omega
  have hg : getR (n :: r) 0 0 = (n, 1, 0) := by
    rw [getR, if_neg (by omega), if_pos hn, Nat.pow_zero, Nat.mul_one, Nat.zero_add, if_neg (by omega)]
  have h0 : ¬ ((a : Int) < 0 ∨ (a : Int) > s.length) := by omega
  simp only [getS, if_neg h0, Int.toNat_natCast, h, hg, if_true]
theorem lenTwo {α : Type} : ∀ {l : List α}, l.length = 2 → ∃ a b, l = [a, b]
  | [a, b], _ => ⟨a, b, rfl⟩
  | [], h => by simp at h
  | [_], h => by simp at h
  | _ :: _ :: _ :: _, h => by simp at h
theorem getS_end {s : List Nat} {a : Nat} (ha : a ≤ s.length) (h : s.drop a = []) : getS s a = (0, 0, 21) := by
  have h0 : ¬ ((a : Int) < 0 ∨ (a : Int) > s.length) := by omega
  simp only [getS, if_neg h0, Int.toNat_natCast, h, getR]
  rfl
theorem drop_app {s k r : List Nat} {a : Nat} (h : s.drop a = k ++ r) : s.drop (a + k.length) = r := by
  rw [← List.drop_drop, h, List.drop_left]
theorem drop_one {s r : List Nat} {a x : Nat} (h : s.drop a = x :: r) : s.drop (a + 1) = r := drop_app (k := [x]) h
/-- A right level, by its kind. -/
theorem right_cases {l : L} {d : Int} (h : rightS l 5 10 d = true) : l = .mk 1 0 [] ∨ (∃ n : Nat, (n < 5 ∧ l = .mk 5 n []) ∨ (n < 10 ∧ l = .mk 6 n [])) ∨ (∃ v, l = .mk 2 0 [v] ∧ rightS v 5 10 (d - 1) = true) ∨
    ∃ v u, (l = .mk 3 0 [v, u] ∨ l = .mk 4 0 [v, u]) ∧ rightS v 5 10 (d - 1) = true ∧ rightS u 5 10 (d - 1) = true := by
  obtain ⟨r1, r2, r3, r4⟩ := right_kid h
  have hk := right_kind h
  cases l with
  | mk k n ks =>
    have e1 : (L.mk k n ks).kind = k := rfl
    have e2 : (L.mk k n ks).n = n := rfl
    have e3 : (L.mk k n ks).kids = ks := rfl
    rw [e1, e3] at r2
    rw [e3] at r4
    rw [e1] at hk
    unfold namedS at r3
    rw [e1, e2] at r3
    rcases hk with rfl | rfl | rfl | rfl | rfl | rfl <;> simp [kidsS] at r2 r3
    · subst r3; exact .inl (by rw [r2])
    · subst r3
      obtain ⟨v, rfl⟩ := List.length_eq_one_iff.1 (by omega : ks.length = 1)
      exact .inr (.inr (.inl ⟨v, rfl, r4 v (by simp)⟩))
    · subst r3
      obtain ⟨v, u, rfl⟩ := lenTwo (by omega : ks.length = 2)
      exact .inr (.inr (.inr ⟨v, u, .inl rfl, r4 v (by simp), r4 u (by simp)⟩))
    · subst r3
      obtain ⟨v, u, rfl⟩ := lenTwo (by omega : ks.length = 2)
      exact .inr (.inr (.inr ⟨v, u, .inr rfl, r4 v (by simp), r4 u (by simp)⟩))
    · exact .inr (.inl ⟨n.toNat, .inl ⟨by omega, by rw [r2, Int.toNat_of_nonneg r3.1]⟩⟩)
    · exact .inr (.inl ⟨n.toNat, .inr ⟨by omega, by rw [r2, Int.toNat_of_nonneg r3.1]⟩⟩)
theorem textL_1 : textL (.mk 1 0 []) = [1] := by
  rw [textL_eq]
  show digs 1 ++ (if (1 : Int) = 5 ∨ (1 : Int) = 6 then digs 0 else []) ++ [] = _
  rw [if_neg (by omega), digs_one (by omega)]
  rfl
theorem textL_5 (m : Nat) (h : m < 128) : textL (.mk 5 m []) = [5, m] := by
  rw [textL_eq]
  show digs 5 ++ (if (5 : Int) = 5 ∨ (5 : Int) = 6 then digs ((m : Int).toNat) else []) ++ [] = _
  rw [if_pos (.inl rfl), Int.toNat_natCast, digs_one (by omega), digs_one (by omega)]
  rfl
theorem textL_6 (m : Nat) (h : m < 128) : textL (.mk 6 m []) = [6, m] := by
  rw [textL_eq]
  show digs 6 ++ (if (6 : Int) = 5 ∨ (6 : Int) = 6 then digs ((m : Int).toNat) else []) ++ [] = _
  rw [if_pos (.inr rfl), Int.toNat_natCast, digs_one (by omega), digs_one (by omega)]
  rfl
theorem textL_2 (v : L) : textL (.mk 2 0 [v]) = 2 :: textL v := by
  rw [textL_eq]
  show digs 2 ++ (if (2 : Int) = 5 ∨ (2 : Int) = 6 then digs 0 else []) ++ [v].flatMap textL = _
  rw [if_neg (by omega), digs_one (by omega)]
  simp
theorem textL_3 (v u : L) : textL (.mk 3 0 [v, u]) = 3 :: (textL v ++ textL u) := by
  rw [textL_eq]
  show digs 3 ++ (if (3 : Int) = 5 ∨ (3 : Int) = 6 then digs 0 else []) ++ [v, u].flatMap textL = _
  rw [if_neg (by omega), digs_one (by omega)]
  simp
theorem textL_4 (v u : L) : textL (.mk 4 0 [v, u]) = 4 :: (textL v ++ textL u) := by
  rw [textL_eq]
  show digs 4 ++ (if (4 : Int) = 5 ∨ (4 : Int) = 6 then digs 0 else []) ++ [v, u].flatMap textL = _
  rw [if_neg (by omega), digs_one (by omega)]
  simp
theorem rd_write (s : List Nat) : ∀ (d : Nat) (l : L) (a n : Nat) (r : List Nat), rightS l 5 10 d = true → n + szL l ≤ 100 → s.drop a = textL l ++ r → rdL s d a n = .ok l (a + (textL l).length) (n + szL l)
  | 0, l, a, n, r, h, _, _ => by have := (right_kid h).1; omega
  | d + 1, l, a, n, r, h, hz, hs => by
    rcases right_cases h with rfl | ⟨m, ⟨hm, rfl⟩ | ⟨hm, rfl⟩⟩ | ⟨v, rfl, hv⟩ | ⟨v, u, rfl | rfl, hv, hu⟩
    · have t0 := textL_1
      rw [t0] at hs ⊢
      have g := getS_one (by omega) hs
      simp only [szL, szLs] at hz ⊢
      simp only [rdL, g]
      rw [if_neg (by omega)]
      rfl
    · have t0 := textL_5 m (by omega)
      rw [t0] at hs ⊢
      have g := getS_one (by omega) hs
      have g2 := getS_one (s := s) (a := a + 1) (n := m) (by omega) (drop_one hs)
      simp only [szL, szLs] at hz ⊢
      simp only [rdL, g, g2]
      rw [if_neg (by omega)]
      simp
      omega
    · have t0 := textL_6 m (by omega)
      rw [t0] at hs ⊢
      have g := getS_one (by omega) hs
      have g2 := getS_one (s := s) (a := a + 1) (n := m) (by omega) (drop_one hs)
      simp only [szL, szLs] at hz ⊢
      simp only [rdL, g, g2]
      rw [if_neg (by omega)]
      simp
      omega
    · have t0 := textL_2 v
      rw [t0] at hs ⊢
      have g := getS_one (by omega) hs
      simp only [szL, szLs] at hz ⊢
      have i1 := rd_write s d v (a + 1) (n + 1) r (by rwa [show ((d + 1 : Nat) : Int) - 1 = (d : Nat) by omega] at hv) (by omega) (drop_one hs)
      simp only [rdL, g, i1]
      rw [if_neg (by omega)]
      simp [RR.bind]
      omega
    · have t0 := textL_3 v u
      rw [t0] at hs ⊢
      have g := getS_one (by omega) hs
      simp only [szL, szLs] at hz ⊢
      have hd : ((d + 1 : Nat) : Int) - 1 = (d : Nat) := by omega
      rw [hd] at hv hu
      have hs1 : s.drop (a + 1) = textL v ++ (textL u ++ r) := by rw [drop_one hs]; simp
      have i1 := rd_write s d v (a + 1) (n + 1) _ hv (by omega) hs1
      have i2 := rd_write s d u (a + 1 + (textL v).length) (n + 1 + szL v) r hu (by omega) (drop_app hs1)
      simp only [rdL, g, i1]
      rw [if_neg (by omega)]
      simp [RR.bind, i2]
      omega
    · have t0 := textL_4 v u
      rw [t0] at hs ⊢
      have g := getS_one (by omega) hs
      simp only [szL, szLs] at hz ⊢
      have hd : ((d + 1 : Nat) : Int) - 1 = (d : Nat) := by omega
      rw [hd] at hv hu
      have hs1 : s.drop (a + 1) = textL v ++ (textL u ++ r) := by rw [drop_one hs]; simp
      have i1 := rd_write s d v (a + 1) (n + 1) _ hv (by omega) hs1
      have i2 := rd_write s d u (a + 1 + (textL v).length) (n + 1 + szL v) r hu (by omega) (drop_app hs1)
      simp only [rdL, g, i1]
      rw [if_neg (by omega)]
      simp [RR.bind, i2]
      omega
/-- What is cut off is no level's bytes. -/
theorem rd_cut (s : List Nat) : ∀ (d : Nat) (l : L) (a n : Nat) (t u : List Nat), rightS l 5 10 d = true → n + szL l ≤ 100 → a ≤ s.length → s.drop a = t → t ++ u = textL l → u ≠ [] → rdL s d a n = .bad 21
  | 0, l, a, n, t, u, h, _, _, _, _, _ => by have := (right_kid h).1; omega
  | d + 1, l, a, n, t, u, h, hz, ha, hs, ht, hu => by
    have hd : ((d + 1 : Nat) : Int) - 1 = (d : Nat) := by omega
    have hz1 : n + 1 ≤ 100 := by
      cases l; simp only [szL] at hz; omega
    have hlt : ∀ {x : Nat} {t' : List Nat}, t = x :: t' → a + 1 ≤ s.length := fun e => by
      have := congrArg List.length (hs.trans e)
      simp at this
      omega
    cases t with
    | nil =>
      have g := getS_end ha hs
      simp only [rdL, g]
      rw [if_neg (by omega)]
      rfl
    | cons x t =>
      have ha1 := hlt rfl
      rcases right_cases h with rfl | ⟨m, ⟨hm, rfl⟩ | ⟨hm, rfl⟩⟩ | ⟨v, rfl, hv⟩ | ⟨v, w, rfl | rfl, hv, hw⟩
      · rw [textL_1] at ht
        simp at ht
        exact absurd ht.2.2 hu
      · rw [textL_5 m (by omega)] at ht
        simp only [List.cons_append, List.cons.injEq] at ht
        obtain ⟨rfl, ht⟩ := ht
        have ht0 : t = [] := by
          cases t with
          | nil => rfl
          | cons y t =>
            simp at ht
            exact absurd ht.2.2 hu
        subst ht0
        have g := getS_one (by omega) hs
        have g2 := getS_end (s := s) (a := a + 1) ha1 (drop_one hs)
        simp only [rdL, g]
        rw [if_neg (by omega)]
        have g2' : getS s ((a : Int) + 1) = (0, 0, 21) := g2
        simp [g2']
      · rw [textL_6 m (by omega)] at ht
        simp only [List.cons_append, List.cons.injEq] at ht
        obtain ⟨rfl, ht⟩ := ht
        have ht0 : t = [] := by
          cases t with
          | nil => rfl
          | cons y t =>
            simp at ht
            exact absurd ht.2.2 hu
        subst ht0
        have g := getS_one (by omega) hs
        have g2 := getS_end (s := s) (a := a + 1) ha1 (drop_one hs)
        simp only [rdL, g]
        rw [if_neg (by omega)]
        have g2' : getS s ((a : Int) + 1) = (0, 0, 21) := g2
        simp [g2']
      · rw [textL_2 v] at ht
        simp only [List.cons_append, List.cons.injEq] at ht
        obtain ⟨rfl, ht⟩ := ht
        have g := getS_one (by omega) hs
        simp only [szL, szLs] at hz
        have i1 := rd_cut s d v (a + 1) (n + 1) t u (by rwa [hd] at hv) (by omega) ha1 (drop_one hs) ht hu
        simp only [rdL, g, i1]
        rw [if_neg (by omega)]
        simp [RR.bind]
      · rw [textL_3 v w] at ht
        simp only [List.cons_append, List.cons.injEq] at ht
        obtain ⟨rfl, ht⟩ := ht
        have g := getS_one (by omega) hs
        have hs1 := drop_one hs
        simp only [szL, szLs] at hz
        rw [hd] at hv hw
        have hlen := congrArg List.length hs1
        rw [List.length_drop] at hlen
        have second : ∀ c, t = textL v ++ c → c ++ u = textL w → rdL s (d + 1) a n = .bad 21 := fun c e1 e2 => by
          rw [e1] at hs1 hlen
          rw [List.length_append] at hlen
          have i1 := rd_write s d v (a + 1) (n + 1) c hv (by omega) hs1
          have i2 := rd_cut s d w (a + 1 + (textL v).length) (n + 1 + szL v) c u hw (by omega) (by omega) (drop_app hs1) e2 hu
          simp only [rdL, g, i1]
          rw [if_neg (by omega)]
          simp [RR.bind, i2]
        rcases List.append_eq_append_iff.1 ht with ⟨c, e1, e2⟩ | ⟨c, e1, e2⟩
        · by_cases hc : c = []
          · subst hc
            exact second [] (by simpa using e1.symm) (by simpa using e2)
          · have i1 := rd_cut s d v (a + 1) (n + 1) t c hv (by omega) ha1 hs1 e1.symm hc
            simp only [rdL, g, i1]
            rw [if_neg (by omega)]
            simp [RR.bind]
        · exact second c e1 e2.symm
      · rw [textL_4 v w] at ht
        simp only [List.cons_append, List.cons.injEq] at ht
        obtain ⟨rfl, ht⟩ := ht
        have g := getS_one (by omega) hs
        have hs1 := drop_one hs
        simp only [szL, szLs] at hz
        rw [hd] at hv hw
        have hlen := congrArg List.length hs1
        rw [List.length_drop] at hlen
        have second : ∀ c, t = textL v ++ c → c ++ u = textL w → rdL s (d + 1) a n = .bad 21 := fun c e1 e2 => by
          rw [e1] at hs1 hlen
          rw [List.length_append] at hlen
          have i1 := rd_write s d v (a + 1) (n + 1) c hv (by omega) hs1
          have i2 := rd_cut s d w (a + 1 + (textL v).length) (n + 1 + szL v) c u hw (by omega) (by omega) (drop_app hs1) e2 hu
          simp only [rdL, g, i1]
          rw [if_neg (by omega)]
          simp [RR.bind, i2]
        rcases List.append_eq_append_iff.1 ht with ⟨c, e1, e2⟩ | ⟨c, e1, e2⟩
        · by_cases hc : c = []
          · subst hc
            exact second [] (by simpa using e1.symm) (by simpa using e2)
          · have i1 := rd_cut s d v (a + 1) (n + 1) t c hv (by omega) ha1 hs1 e1.symm hc
            simp only [rdL, g, i1]
            rw [if_neg (by omega)]
            simp [RR.bind]
        · exact second c e1 e2.symm
end Pi


set_option linter.unusedSimpArgs false
set_option linter.unusedVariables false
namespace Pi
theorem textL_byt (l : L) : Byt (textL l) := by
  induction l using L.ind with
  | h l ih =>
    rw [textL_eq]
    refine Byt.app (Byt.app (digs_byt _) ?_) ?_
    · split
      · exact digs_byt _
      · exact .nil
    · intro x hx
      obtain ⟨k, hk, hx⟩ := List.mem_flatMap.1 hx
      exact ih k hk x hx
set_option maxHeartbeats 1000000 in
set_option maxRecDepth 10000 in
theorem law03_LcodeBack.a (k : List Nat) (hk : k.length ≤ 9223372036854775807) (hb0 : Byt k) (t : ByteArray) (c : Nat) (hc : c < 256) : Ans ctx law03_LcodeBack.n [sV cU k, .s t, .i .u8 c] (.b true) := by
  obtain ⟨mo, rfl, hmo⟩ := bs_of t
  obtain ⟨more, hmb, hml, hmc⟩ : ∃ more, Byt more ∧ more.length ≤ 100 ∧ more = (if mo.length > 100 then [] else mo) := by
    by_cases h : mo.length > 100
    · exact ⟨[], .nil, by simp, by rw [if_pos h]⟩
    · exact ⟨mo, hmo, by omega, by rw [if_neg h]⟩
  have hM : Ans ctx law02_Made.n [sV cU k, .i .i64 5, .i .i64 10] (.ag (cL (madeS k 5 10))) := law02_Made.a k hb0 5 10 (by omega) (by omega)
  have ok := madeS_ok k 5 10 (by omega) (by omega)
  have hz := madeS_sz k 5 10
  have hr5 : rightS (madeS k 5 10) 5 10 5 = true := madeS_right k 5 10
  have hr : rightS (madeS k 5 10) 5 10 12 = true := rightS_up _ 5 10 5 12 (by omega) hr5
  have hR : RightS (madeS k 5 10) 5 10 = true := RightS_of (p := 5) (q := 10) (by omega) (by omega) (by omega) hr
  generalize madeS k 5 10 = l at *
  have p1 := lcode_Put.a l ok (fun h => by have := RightS_len h; omega)
  rw [if_pos hR] at p1
  have hlen := textL_len l (d := 5) hr5
  have hpos := textL_cons_len l
  have htb := textL_byt l
  have g1 := lcode_Get.a (textL l ++ more) 0 (htb.app hmb) (by rw [List.length_append]; omega)
  have e1 : getLV (textL l ++ more) 0 = rrV (.ok l (textL l).length (szL l)) := by
    unfold getLV
    rw [if_neg (by omega)]
    have := rd_write (textL l ++ more) 12 l 0 0 more hr (by omega) (by simp)
    rw [show ((0 : Int).toNat) = 0 from rfl, this, Nat.zero_add, Nat.zero_add]
  rw [e1] at g1
  have hcut : c % (textL l).length < (textL l).length := Nat.mod_lt _ hpos
  have g2 := lcode_Get.a ((textL l).take (c % (textL l).length)) 0 (fun x hx => htb x (List.mem_of_mem_take hx)) (by rw [List.length_take]; omega)
  have e2 : getLV ((textL l).take (c % (textL l).length)) 0 = rrV (.bad 21) := by
    unfold getLV
    rw [if_neg (by omega)]
    have := rd_cut ((textL l).take (c % (textL l).length)) 12 l 0 0 ((textL l).take (c % (textL l).length)) ((textL l).drop (c % (textL l).length)) hr (by omega) (by omega) (by simp) (List.take_append_drop _ _) (fun h => by
      have := congrArg List.length h
      simp at this
      omega)
    rw [show ((0 : Int).toNat) = 0 from rfl, this]
  rw [e2] at g2
  refine ans law03_LcodeBack.f ?_
  unfold rrV at g1 g2
  generalize textL l = o at *
  have hcn : c % o.length = ((c : Int) % (o.length : Int)).toNat := by rw [show (c : Int) % (o.length : Int) = ((c % o.length : Nat) : Int) from rfl, Int.toNat_natCast]
  rw [hcn] at g2
  have hl3 := cL_len l
  have ht : (cL l).take 3 = cL l := List.take_of_length_le (by omega)
  by_cases hm : mo.length > 100
  · rw [if_pos hm] at hmc
    subst hmc
    have hm' : (mo.length : Int) > 100 := by omega
    rw [List.append_nil] at g1
    simp +contextual (disch := omega) [Nat.add_assoc, Int.add_assoc, if_pos, if_neg, -Int.not_lt, -Int.not_le, -Nat.not_lt, -Nat.not_le, -List.length_flatMap, law03_LcodeBack.c, hm', ansK hM, ansK p1, ansK g1, ansK (ref02_Same.a l ok l ok), sameS_refl, ht, Int.tmod_eq_emod_of_nonneg, ansK g2]
  · rw [if_neg hm] at hmc
    subst hmc
    have hm' : ¬ (more.length : Int) > 100 := by omega
    simp +contextual (disch := omega) [Nat.add_assoc, Int.add_assoc, if_pos, if_neg, -Int.not_lt, -Int.not_le, -Nat.not_lt, -Nat.not_le, -List.length_flatMap, law03_LcodeBack.c, hm', ansK hM, ansK p1, ansK g1, ansK (ref02_Same.a l ok l ok), sameS_refl, ht, Int.tmod_eq_emod_of_nonneg, ansK g2]
end Pi

