/- Contracts: levels as bytes (layer 3): what is written is what the document says. -/
import Derived.Test.YtbkkigmlkafeiaaC03f
import Derived.Test.YtbkkigmlkafeiaaEnc
set_option linter.unusedSimpArgs false
set_option linter.unusedVariables false
namespace Pi
/-! Made levels are right; what is more. -/
theorem mkS_right (l : List Nat) (p q : Nat) (d : Nat) : ∀ i, rightS (mkS l p q (d + 1) i).1 p q ((d : Int) + 1) = true := by
  induction d with
  | zero =>
    intro i
    rw [mkS_eq]
    simp only [if_true]
    have hk : pickS l i 10 % 4 < 4 := by omega
    generalize pickS l i 10 % 4 = k at hk
    split
    · rename_i h
      have := pickS_lt l (i + 1) p (by omega)
      rw [rightS_eq]
      simp [kidsS, namedS]
      omega
    · split
      · rename_i h
        have := pickS_lt l (i + 1) q (by omega)
        rw [rightS_eq]
        simp [kidsS, namedS]
        omega
      · rw [rightS_eq]
        simp [kidsS, namedS]
  | succ d ih =>
    intro i
    rw [mkS_eq]
    simp only
    generalize (if d + 1 = 0 then pickS l i 10 % 4 else pickS l i 10) = k
    have e1 : (((d + 1 : Nat) : Int) + 1 - 1) = (d : Int) + 1 := by omega
    split
    · rename_i h
      have := pickS_lt l (i + 1) p (by omega)
      rw [rightS_eq]
      simp [kidsS, namedS]
      omega
    · split
      · rename_i h
        have := pickS_lt l (i + 1) q (by omega)
        rw [rightS_eq]
        simp [kidsS, namedS]
        omega
      · split
        · rw [rightS_eq]
          simp [kidsS, namedS]
          omega
        · split
          · rw [rightS_eq, e1]
            simp [kidsS, namedS, ih]
            omega
          · split <;> (rw [rightS_eq, e1]; simp [kidsS, namedS, ih]; omega)
mutual
def szL (l : L) : Nat := match l with | .mk _ _ ks => 1 + szLs ks
def szLs (l : List L) : Nat := match l with | [] => 0 | a :: r => szL a + szLs r
end
theorem nodesL_le (ks : List L) (h : ∀ k ∈ ks, ∀ m, nodesS k m ≤ szL k) : ∀ (m n : Int), nodesL ks m n ≤ n + szLs ks := by
  induction ks with
  | nil => intro m n; simp [nodesL, szLs]
  | cons k r ih =>
    intro m n
    simp only [nodesL, szLs]
    have h1 := h k (by simp)
    have h2 := ih (fun k hk => h k (by simp [hk]))
    split
    · have := h1 (m - n)
      have := h2 m (n + nodesS k (m - n))
      omega
    · have := h2 m n
      omega
theorem nodesS_le (l : L) : ∀ m, nodesS l m ≤ szL l := by
  induction l using L.ind with
  | h l ih =>
    intro m
    cases l with
    | mk k n ks =>
      have := nodesL_le ks ih m 1
      simp only [nodesS, szL]
      omega
theorem mkS_sz (l : List Nat) (p q : Nat) (d : Nat) : ∀ i, szL (mkS l p q (d + 1) i).1 + 1 ≤ 2 ^ (d + 1) := by
  induction d with
  | zero =>
    intro i
    rw [mkS_eq]
    simp only [if_true]
    have hk : pickS l i 10 % 4 < 4 := by omega
    split
    · simp [szL, szLs]
    · split
      · simp [szL, szLs]
      · simp [szL, szLs]
  | succ d ih =>
    intro i
    have h0 : 2 ^ (d + 1 + 1) = 2 * 2 ^ (d + 1) := by rw [Nat.pow_succ, Nat.mul_comm]
    have h0' : 2 ^ (d + 2) = 2 * 2 ^ (d + 1) := h0
    have h1 : 2 ≤ 2 ^ (d + 1) := by
      calc 2 = 2 ^ 1 := rfl
        _ ≤ 2 ^ (d + 1) := Nat.pow_le_pow_right (by omega) (by omega)
    rw [mkS_eq]
    simp only
    generalize (if d + 1 = 0 then pickS l i 10 % 4 else pickS l i 10) = k
    have a1 := ih (i + 1)
    have a2 := ih (mkS l p q (d + 1) (i + 1)).2
    split
    · (try dsimp only); (try simp only [szL, szLs]); omega
    · split
      · (try dsimp only); (try simp only [szL, szLs]); omega
      · split
        · (try dsimp only); (try simp only [szL, szLs]); omega
        · split
          · (try dsimp only); (try simp only [szL, szLs]); omega
          · split <;> ((try dsimp only); (try simp only [szL, szLs]); omega)
theorem rightS_up (l : L) : ∀ (p q d d' : Int), d ≤ d' → rightS l p q d = true → rightS l p q d' = true := by
  induction l using L.ind with
  | h l ih =>
    intro p q d d' hd h
    obtain ⟨h1, h2, h3, h4⟩ := right_kid h
    rw [rightS_eq]
    simp only [Bool.and_eq_true, decide_eq_true_eq, Bool.not_eq_true', List.any_eq_false, Bool.not_eq_false]
    exact ⟨⟨⟨by omega, h2⟩, h3⟩, fun k hk => ih k hk p q (d - 1) (d' - 1) (by omega) (h4 k hk)⟩
end Pi


set_option linter.unusedSimpArgs false
set_option linter.unusedVariables false
namespace Pi
theorem RightS_of {l : L} {p q : Nat} (hp : p ≤ 5) (hq : q ≤ 10) (hz : szL l ≤ 100) (h : rightS l p q 12 = true) : RightS l p q = true := by
  unfold RightS
  have := nodesS_le l 101
  rw [if_neg (by omega)]
  simp [h]
  omega
end Pi


set_option linter.unusedSimpArgs false
set_option linter.unusedVariables false
namespace Pi
end Pi


set_option linter.unusedSimpArgs false
set_option linter.unusedVariables false
namespace Pi
theorem getS_one {s : List Nat} {a n : Nat} {r : List Nat} (hn : n < 128) (h : s.drop a = n :: r) : getS s a = (n, a + 1, 0) := by
  have ha : a < s.length := by
    have := congrArg List.length h
    simp at this
    omega
  have hg : getR (n :: r) 0 0 = (n, 1, 0) := by
    rw [getR, if_neg (by omega), if_pos hn, Nat.pow_zero, Nat.mul_one, Nat.zero_add, if_neg (by omega)]
  have h0 : ¬ ((a : Int) < 0 ∨ (a : Int) > s.length) := by omega
  simp only [getS, if_neg h0, Int.toNat_natCast, h, hg, if_true]
theorem lenTwo {α : Type} : ∀ {l : List α}, l.length = 2 → ∃ a b, l = [a, b]
  | [a, b], _ => ⟨a, b, rfl⟩
  | [], h => by simp at h
  | [_], h => by simp at h
  | _ :: _ :: _ :: _, h => by simp at h
theorem getS_end {s : List Nat} {a : Nat} (ha : a ≤ s.length) (h : s.drop a = []) : getS s a = (0, 0, 21) := by
  have h0 : ¬ ((a : Int) < 0 ∨ (a : Int) > s.length) := by omega
  simp only [getS, if_neg h0, Int.toNat_natCast, h, getR]
  rfl
theorem drop_app {s k r : List Nat} {a : Nat} (h : s.drop a = k ++ r) : s.drop (a + k.length) = r := by
  rw [← List.drop_drop, h, List.drop_left]
theorem drop_one {s r : List Nat} {a x : Nat} (h : s.drop a = x :: r) : s.drop (a + 1) = r := drop_app (k := [x]) h
/-- A right level, by its kind. -/
theorem right_cases {l : L} {d : Int} (h : rightS l 5 10 d = true) : l = .mk 1 0 [] ∨ (∃ n : Nat, (n < 5 ∧ l = .mk 5 n []) ∨ (n < 10 ∧ l = .mk 6 n [])) ∨ (∃ v, l = .mk 2 0 [v] ∧ rightS v 5 10 (d - 1) = true) ∨
    ∃ v u, (l = .mk 3 0 [v, u] ∨ l = .mk 4 0 [v, u]) ∧ rightS v 5 10 (d - 1) = true ∧ rightS u 5 10 (d - 1) = true := by
  obtain ⟨r1, r2, r3, r4⟩ := right_kid h
  have hk := right_kind h
  cases l with
  | mk k n ks =>
    have e1 : (L.mk k n ks).kind = k := rfl
    have e2 : (L.mk k n ks).n = n := rfl
    have e3 : (L.mk k n ks).kids = ks := rfl
    rw [e1, e3] at r2
    rw [e3] at r4
    rw [e1] at hk
    unfold namedS at r3
    rw [e1, e2] at r3
    rcases hk with rfl | rfl | rfl | rfl | rfl | rfl <;> simp [kidsS] at r2 r3
    · subst r3; exact .inl (by rw [r2])
    · subst r3
      obtain ⟨v, rfl⟩ := List.length_eq_one_iff.1 (by omega : ks.length = 1)
      exact .inr (.inr (.inl ⟨v, rfl, r4 v (by simp)⟩))
    · subst r3
      obtain ⟨v, u, rfl⟩ := lenTwo (by omega : ks.length = 2)
      exact .inr (.inr (.inr ⟨v, u, .inl rfl, r4 v (by simp), r4 u (by simp)⟩))
    · subst r3
      obtain ⟨v, u, rfl⟩ := lenTwo (by omega : ks.length = 2)
      exact .inr (.inr (.inr ⟨v, u, .inr rfl, r4 v (by simp), r4 u (by simp)⟩))
    · exact .inr (.inl ⟨n.toNat, .inl ⟨by omega, by rw [r2, Int.toNat_of_nonneg r3.1]⟩⟩)
    · exact .inr (.inl ⟨n.toNat, .inr ⟨by omega, by rw [r2, Int.toNat_of_nonneg r3.1]⟩⟩)
theorem textL_1 : textL (.mk 1 0 []) = [1] := by
  rw [textL_eq]
  show digs 1 ++ (if (1 : Int) = 5 ∨ (1 : Int) = 6 then digs 0 else []) ++ [] = _
  rw [if_neg (by omega), digs_one (by omega)]
  rfl
theorem textL_5 (m : Nat) (h : m < 128) : textL (.mk 5 m []) = [5, m] := by
  rw [textL_eq]
  show digs 5 ++ (if (5 : Int) = 5 ∨ (5 : Int) = 6 then digs ((m : Int).toNat) else []) ++ [] = _
  rw [if_pos (.inl rfl), Int.toNat_natCast, digs_one (by omega), digs_one (by omega)]
  rfl
theorem textL_6 (m : Nat) (h : m < 128) : textL (.mk 6 m []) = [6, m] := by
  rw [textL_eq]
  show digs 6 ++ (if (6 : Int) = 5 ∨ (6 : Int) = 6 then digs ((m : Int).toNat) else []) ++ [] = _
  rw [if_pos (.inr rfl), Int.toNat_natCast, digs_one (by omega), digs_one (by omega)]
  rfl
theorem textL_2 (v : L) : textL (.mk 2 0 [v]) = 2 :: textL v := by
  rw [textL_eq]
  show digs 2 ++ (if (2 : Int) = 5 ∨ (2 : Int) = 6 then digs 0 else []) ++ [v].flatMap textL = _
  rw [if_neg (by omega), digs_one (by omega)]
  simp
theorem textL_3 (v u : L) : textL (.mk 3 0 [v, u]) = 3 :: (textL v ++ textL u) := by
  rw [textL_eq]
  show digs 3 ++ (if (3 : Int) = 5 ∨ (3 : Int) = 6 then digs 0 else []) ++ [v, u].flatMap textL = _
  rw [if_neg (by omega), digs_one (by omega)]
  simp
theorem textL_4 (v u : L) : textL (.mk 4 0 [v, u]) = 4 :: (textL v ++ textL u) := by
  rw [textL_eq]
  show digs 4 ++ (if (4 : Int) = 5 ∨ (4 : Int) = 6 then digs 0 else []) ++ [v, u].flatMap textL = _
  rw [if_neg (by omega), digs_one (by omega)]
  simp
theorem rd_write (s : List Nat) : ∀ (d : Nat) (l : L) (a n : Nat) (r : List Nat), rightS l 5 10 d = true → n + szL l ≤ 100 → s.drop a = textL l ++ r → rdL s d a n = .ok l (a + (textL l).length) (n + szL l)
  | 0, l, a, n, r, h, _, _ => by have := (right_kid h).1; omega
  | d + 1, l, a, n, r, h, hz, hs => by
    rcases right_cases h with rfl | ⟨m, ⟨hm, rfl⟩ | ⟨hm, rfl⟩⟩ | ⟨v, rfl, hv⟩ | ⟨v, u, rfl | rfl, hv, hu⟩
    · have t0 := textL_1
      rw [t0] at hs ⊢
      have g := getS_one (by omega) hs
      simp only [szL, szLs] at hz ⊢
      simp only [rdL, g]
      rw [if_neg (by omega)]
      rfl
    · have t0 := textL_5 m (by omega)
      rw [t0] at hs ⊢
      have g := getS_one (by omega) hs
      have g2 := getS_one (s := s) (a := a + 1) (n := m) (by omega) (drop_one hs)
      simp only [szL, szLs] at hz ⊢
      simp only [rdL, g, g2]
      rw [if_neg (by omega)]
      simp
      omega
    · have t0 := textL_6 m (by omega)
      rw [t0] at hs ⊢
      have g := getS_one (by omega) hs
      have g2 := getS_one (s := s) (a := a + 1) (n := m) (by omega) (drop_one hs)
      simp only [szL, szLs] at hz ⊢
      simp only [rdL, g, g2]
      rw [if_neg (by omega)]
      simp
      omega
    · have t0 := textL_2 v
      rw [t0] at hs ⊢
      have g := getS_one (by omega) hs
      simp only [szL, szLs] at hz ⊢
      have i1 := rd_write s d v (a + 1) (n + 1) r (by rwa [show ((d + 1 : Nat) : Int) - 1 = (d : Nat) by omega] at hv) (by omega) (drop_one hs)
      simp only [rdL, g, i1]
      rw [if_neg (by omega)]
      simp [RR.bind]
      omega
    · have t0 := textL_3 v u
      rw [t0] at hs ⊢
      have g := getS_one (by omega) hs
      simp only [szL, szLs] at hz ⊢
      have hd : ((d + 1 : Nat) : Int) - 1 = (d : Nat) := by omega
      rw [hd] at hv hu
      have hs1 : s.drop (a + 1) = textL v ++ (textL u ++ r) := by rw [drop_one hs]; simp
      have i1 := rd_write s d v (a + 1) (n + 1) _ hv (by omega) hs1
      have i2 := rd_write s d u (a + 1 + (textL v).length) (n + 1 + szL v) r hu (by omega) (drop_app hs1)
      simp only [rdL, g, i1]
      rw [if_neg (by omega)]
      simp [RR.bind, i2]
      omega
    · have t0 := textL_4 v u
      rw [t0] at hs ⊢
      have g := getS_one (by omega) hs
      simp only [szL, szLs] at hz ⊢
      have hd : ((d + 1 : Nat) : Int) - 1 = (d : Nat) := by omega
      rw [hd] at hv hu
      have hs1 : s.drop (a + 1) = textL v ++ (textL u ++ r) := by rw [drop_one hs]; simp
      have i1 := rd_write s d v (a + 1) (n + 1) _ hv (by omega) hs1
      have i2 := rd_write s d u (a + 1 + (textL v).length) (n + 1 + szL v) r hu (by omega) (drop_app hs1)
      simp only [rdL, g, i1]
      rw [if_neg (by omega)]
      simp [RR.bind, i2]
      omega
/-- What is cut off is no level's bytes. -/
theorem rd_cut (s : List Nat) : ∀ (d : Nat) (l : L) (a n : Nat) (t u : List Nat), rightS l 5 10 d = true → n + szL l ≤ 100 → a ≤ s.length → s.drop a = t → t ++ u = textL l → u ≠ [] → rdL s d a n = .bad 21
  | 0, l, a, n, t, u, h, _, _, _, _, _ => by have := (right_kid h).1; omega
  | d + 1, l, a, n, t, u, h, hz, ha, hs, ht, hu => by
    have hd : ((d + 1 : Nat) : Int) - 1 = (d : Nat) := by omega
    have hz1 : n + 1 ≤ 100 := by
      cases l; simp only [szL] at hz; omega
    have hlt : ∀ {x : Nat} {t' : List Nat}, t = x :: t' → a + 1 ≤ s.length := fun e => by
      have := congrArg List.length (hs.trans e)
      simp at this
      omega
    cases t with
    | nil =>
      have g := getS_end ha hs
      simp only [rdL, g]
      rw [if_neg (by omega)]
      rfl
    | cons x t =>
      have ha1 := hlt rfl
      rcases right_cases h with rfl | ⟨m, ⟨hm, rfl⟩ | ⟨hm, rfl⟩⟩ | ⟨v, rfl, hv⟩ | ⟨v, w, rfl | rfl, hv, hw⟩
      · rw [textL_1] at ht
        simp at ht
        exact absurd ht.2.2 hu
      · rw [textL_5 m (by omega)] at ht
        simp only [List.cons_append, List.cons.injEq] at ht
        obtain ⟨rfl, ht⟩ := ht
        have ht0 : t = [] := by
          cases t with
          | nil => rfl
          | cons y t =>
            simp at ht
            exact absurd ht.2.2 hu
        subst ht0
        have g := getS_one (by omega) hs
        have g2 := getS_end (s := s) (a := a + 1) ha1 (drop_one hs)
        simp only [rdL, g]
        rw [if_neg (by omega)]
        have g2' : getS s ((a : Int) + 1) = (0, 0, 21) := g2
        simp [g2']
      · rw [textL_6 m (by omega)] at ht
        simp only [List.cons_append, List.cons.injEq] at ht
        obtain ⟨rfl, ht⟩ := ht
        have ht0 : t = [] := by
          cases t with
          | nil => rfl
          | cons y t =>
            simp at ht
            exact absurd ht.2.2 hu
        subst ht0
        have g := getS_one (by omega) hs
        have g2 := getS_end (s := s) (a := a + 1) ha1 (drop_one hs)
        simp only [rdL, g]
        rw [if_neg (by omega)]
        have g2' : getS s ((a : Int) + 1) = (0, 0, 21) := g2
        simp [g2']
      · rw [textL_2 v] at ht
        simp only [List.cons_append, List.cons.injEq] at ht
        obtain ⟨rfl, ht⟩ := ht
        have g := getS_one (by omega) hs
        simp only [szL, szLs] at hz
        have i1 := rd_cut s d v (a + 1) (n + 1) t u (by rwa [hd] at hv) (by omega) ha1 (drop_one hs) ht hu
        simp only [rdL, g, i1]
        rw [if_neg (by omega)]
        simp [RR.bind]
      · rw [textL_3 v w] at ht
        simp only [List.cons_append, List.cons.injEq] at ht
        obtain ⟨rfl, ht⟩ := ht
        have g := getS_one (by omega) hs
        have hs1 := drop_one hs
        simp only [szL, szLs] at hz
        rw [hd] at hv hw
        have hlen := congrArg List.length hs1
        rw [List.length_drop] at hlen
        have second : ∀ c, t = textL v ++ c → c ++ u = textL w → rdL s (d + 1) a n = .bad 21 := fun c e1 e2 => by
          rw [e1] at hs1 hlen
          rw [List.length_append] at hlen
          have i1 := rd_write s d v (a + 1) (n + 1) c hv (by omega) hs1
          have i2 := rd_cut s d w (a + 1 + (textL v).length) (n + 1 + szL v) c u hw (by omega) (by omega) (drop_app hs1) e2 hu
          simp only [rdL, g, i1]
          rw [if_neg (by omega)]
          simp [RR.bind, i2]
        rcases List.append_eq_append_iff.1 ht with ⟨c, e1, e2⟩ | ⟨c, e1, e2⟩
        · by_cases hc : c = []
          · subst hc
            exact second [] (by simpa using e1.symm) (by simpa using e2)
          · have i1 := rd_cut s d v (a + 1) (n + 1) t c hv (by omega) ha1 hs1 e1.symm hc
            simp only [rdL, g, i1]
            rw [if_neg (by omega)]
            simp [RR.bind]
        · exact second c e1 e2.symm
      · rw [textL_4 v w] at ht
        simp only [List.cons_append, List.cons.injEq] at ht
        obtain ⟨rfl, ht⟩ := ht
        have g := getS_one (by omega) hs
        have hs1 := drop_one hs
        simp only [szL, szLs] at hz
        rw [hd] at hv hw
        have hlen := congrArg List.length hs1
        rw [List.length_drop] at hlen
        have second : ∀ c, t = textL v ++ c → c ++ u = textL w → rdL s (d + 1) a n = .bad 21 := fun c e1 e2 => by
          rw [e1] at hs1 hlen
          rw [List.length_append] at hlen
          have i1 := rd_write s d v (a + 1) (n + 1) c hv (by omega) hs1
          have i2 := rd_cut s d w (a + 1 + (textL v).length) (n + 1 + szL v) c u hw (by omega) (by omega) (drop_app hs1) e2 hu
          simp only [rdL, g, i1]
          rw [if_neg (by omega)]
          simp [RR.bind, i2]
        rcases List.append_eq_append_iff.1 ht with ⟨c, e1, e2⟩ | ⟨c, e1, e2⟩
        · by_cases hc : c = []
          · subst hc
            exact second [] (by simpa using e1.symm) (by simpa using e2)
          · have i1 := rd_cut s d v (a + 1) (n + 1) t c hv (by omega) ha1 hs1 e1.symm hc
            simp only [rdL, g, i1]
            rw [if_neg (by omega)]
            simp [RR.bind]
        · exact second c e1 e2.symm
theorem RR.bind_bad {r : RR} {f : L → Nat → Nat → RR} {e : Nat} (h : r.bind f = .bad e) : r = .bad e ∨ ∃ v a n, r = .ok v a n ∧ f v a n = .bad e := by
  cases r with
  | bad e' => exact .inl h
  | ok v' a' n' => exact .inr ⟨v', a', n', rfl, h⟩
theorem rd_bad (s : List Nat) : ∀ (d a n e : Nat), rdL s d a n = .bad e → e ≠ 0
  | 0, a, n, e, h => by simp [rdL] at h; omega
  | d + 1, a, n, e, h => by
    unfold rdL at h
    split at h
    · cases h; omega
    split at h
    · rename_i h1; cases h; exact h1
    split at h
    · cases h
    split at h
    · split at h
      · rename_i h1; cases h; exact h1
      generalize (if (getS s a).1 = 5 then 5 else 10) = q at h
      split at h
      · cases h; omega
      · cases h
    split at h
    · rcases RR.bind_bad h with h | ⟨v, a2, n2, h1, h2⟩
      · exact rd_bad s d _ _ e h
      · cases h2
    split at h
    · rcases RR.bind_bad h with h | ⟨v, a2, n2, h1, h2⟩
      · exact rd_bad s d _ _ e h
      · rcases RR.bind_bad h2 with h | ⟨v, a2, n2, h1, h2⟩
        · exact rd_bad s d _ _ e h
        · cases h2
    · cases h; omega
end Pi


set_option linter.unusedSimpArgs false
set_option linter.unusedVariables false
namespace Pi
inductive Tm where
  | mk (kind n : Int) (lvls : List L) (kids : List Tm)
def Tm.kind : Tm → Int | .mk k _ _ _ => k
def Tm.n : Tm → Int | .mk _ n _ _ => n
def Tm.lvls : Tm → List L | .mk _ _ ls _ => ls
def Tm.kids : Tm → List Tm | .mk _ _ _ ks => ks
@[simp] theorem Tm.kind_mk (k n : Int) (ls : List L) (ks : List Tm) : (Tm.mk k n ls ks).kind = k := rfl
@[simp] theorem Tm.n_mk (k n : Int) (ls : List L) (ks : List Tm) : (Tm.mk k n ls ks).n = n := rfl
@[simp] theorem Tm.lvls_mk (k n : Int) (ls : List L) (ks : List Tm) : (Tm.mk k n ls ks).lvls = ls := rfl
@[simp] theorem Tm.kids_mk (k n : Int) (ls : List L) (ks : List Tm) : (Tm.mk k n ls ks).kids = ks := rfl
theorem Tm.size_kid {l k : Tm} (h : k ∈ l.kids) : sizeOf k < sizeOf l := by
  cases l with
  | mk a n ls ks =>
    simp only [Tm.kids] at h
    have := List.sizeOf_lt_of_mem h
    simp only [Tm.mk.sizeOf_spec]
    omega
theorem Tm.ind {P : Tm → Prop} (h : ∀ l : Tm, (∀ k ∈ l.kids, P k) → P l) (l : Tm) : P l := by
  have : ∀ n, ∀ l : Tm, sizeOf l < n → P l := by
    intro n
    induction n with
    | zero => intro l hl; omega
    | succ n ih => intro l hl; exact h l fun k hk => ih k (by have := Tm.size_kid hk; omega)
  exact this (sizeOf l + 1) l (by omega)
mutual
def cT : Tm → List V
  | .mk k n ls ks => [.i .i64 k, .i .i64 n, sV cL ls, .sl (cTs ks) ks.length]
def cTs : List Tm → List V
  | [] => []
  | a :: r => cT a ++ cTs r
end
theorem cTs_eq : ∀ l : List Tm, cTs l = l.flatMap cT
  | [] => by simp [cTs]
  | a :: r => by simp [cTs, cTs_eq r]
theorem cT_at (l : Tm) : cT l = [.i .i64 l.kind, .i .i64 l.n, sV cL l.lvls, sV cT l.kids] := by
  cases l with
  | mk k n ls ks => simp [cT, sV, cTs_eq, Tm.kids]
theorem cT_len (l : Tm) : (cT l).length = 4 := by rw [cT_at]; rfl
theorem cT_fz (l : Tm) (D : Nat → Option (Bool × List V × List V × List Nat)) : frzL D (cT l) = some (cT l, []) := by rw [cT_at]; simp
attribute [simp] cT_len cT_fz
instance : Cel cT 4 := ⟨cT_len, by decide, cT_fz⟩
@[simp] theorem cT_0 (l : Tm) : (cT l)[0]? = some (.i .i64 l.kind) := by rw [cT_at]; rfl
@[simp] theorem cT_1 (l : Tm) : (cT l)[1]? = some (.i .i64 l.n) := by rw [cT_at]; rfl
@[simp] theorem cT_2 (l : Tm) : (cT l)[2]? = some (sV cL l.lvls) := by rw [cT_at]; rfl
@[simp] theorem cT_3 (l : Tm) : (cT l)[3]? = some (sV cT l.kids) := by rw [cT_at]; rfl
@[simp] theorem cT_take (l : Tm) : (cT l).take 4 = cT l := List.take_of_length_le (by simp)
/-- A term whose lists are no longer than memory lets them be, its numbers as they come. -/
inductive Tm.Ok : Tm → Prop
  | mk {k n : Int} {ls : List L} {ks : List Tm} : ls.length ≤ 9223372036854775807 → ks.length ≤ 9223372036854775807 → (-9223372036854775808 ≤ k ∧ k < 9223372036854775808) → (-9223372036854775808 ≤ n ∧ n < 9223372036854775808) → (∀ x ∈ ls, L.Ok x) → (∀ x ∈ ks, Tm.Ok x) → Tm.Ok (.mk k n ls ks)
theorem Tm.Ok.llen {l : Tm} (h : l.Ok) : l.lvls.length ≤ 9223372036854775807 := by cases h; assumption
theorem Tm.Ok.len {l : Tm} (h : l.Ok) : l.kids.length ≤ 9223372036854775807 := by cases h; assumption
theorem Tm.Ok.lvl {l : Tm} (h : l.Ok) {k : L} (hk : k ∈ l.lvls) : k.Ok := by cases h with | mk _ _ _ _ h _ => exact h k hk
theorem Tm.Ok.kid {l : Tm} (h : l.Ok) {k : Tm} (hk : k ∈ l.kids) : k.Ok := by cases h with | mk _ _ _ _ _ h => exact h k hk
theorem Tm.Ok.lat {l : Tm} (h : l.Ok) {i : Nat} (hi : i < l.lvls.length) : l.lvls[i].Ok := h.lvl (List.getElem_mem hi)
theorem Tm.Ok.at {l : Tm} (h : l.Ok) {i : Nat} (hi : i < l.kids.length) : l.kids[i].Ok := h.kid (List.getElem_mem hi)
end Pi


set_option linter.unusedSimpArgs false
set_option linter.unusedVariables false
namespace Pi
/-- A number below a limit: the number, the place behind it, the error. -/
def numT (s : List Nat) (a most : Nat) : Nat × Nat × Nat :=
  if (getS s a).2.2 ≠ 0 then (0, a, (getS s a).2.2) else if most ≤ (getS s a).1 then (0, a, 20) else ((getS s a).1, (getS s a).2.1, 0)
inductive LR where
  | ok (ls : List L) (at' : Nat)
  | bad (e : Nat)
def LR.pre (vs : List L) : LR → LR
  | .ok ls a => .ok (vs ++ ls) a
  | .bad e => .bad e
/-- A level, wherever. -/
def lvR (s : List Nat) (a : Nat) : RR := if s.length < a then .bad 1 else rdL s 12 a 0
/-- So many levels. -/
def rdLs (s : List Nat) : Nat → Nat → LR
  | 0, a => .ok [] a
  | m + 1, a => match lvR s a with
    | .bad e => .bad e
    | .ok v a' _ => (rdLs s m a').pre [v]
theorem rdLs_succ (s : List Nat) (m a : Nat) : rdLs s (m + 1) a = match lvR s a with | .bad e => .bad e | .ok v a' _ => (rdLs s m a').pre [v] := rfl
theorem getLV_lvR (s : List Nat) (a : Nat) : getLV s a = rrV (lvR s a) := by
  unfold getLV lvR
  by_cases h : s.length < a
  · rw [if_pos h, if_pos (by omega)]
  · rw [if_neg h, if_neg (by omega), Int.toNat_natCast]
def rcT (s : List Nat) (a n e : Int) : Option PObj := some (.cells [.s (bs s), .i .i64 a, .i .i64 n, .i .i64 e] false)
theorem tcode_reader_fail.w {m : Sto} {x p : Nat} {K : CR → Sto → Nat → Prop} (s : List Nat) (a n e e' : Int) (hm : m p = rcT s a n e)
    (hK : ∀ m' x', x ≤ x' → (∀ j, j ≠ p → m' j = m j) → m' p = rcT s a n (if e = 0 then e' else e) → K (.ret (.tu [])) m' x') :
    w ctx (envOf [.p p 0, .i .i64 e']) m x [] none none (RetG ctx tcode_reader_fail.c.rs K) tcode_reader_fail.c.code := by
  unfold rcT at hm hK
  by_cases h : e = 0
  · subst h
    rw [if_pos rfl] at hK
    simp +contextual (disch := omega) [Nat.add_assoc, Int.add_assoc, if_pos, if_neg, -Int.not_lt, -Int.not_le, -Nat.not_lt, -Nat.not_le, -List.length_flatMap, tcode_reader_fail.c, hm]
    exact hK _ _ (by omega) (fun j hj => Sto.sne _ _ _ _ hj) (Sto.seq _ _ _)
  · rw [if_neg h] at hK
    simp +contextual (disch := omega) [Nat.add_assoc, Int.add_assoc, if_pos, if_neg, -Int.not_lt, -Int.not_le, -Nat.not_lt, -Nat.not_le, -List.length_flatMap, tcode_reader_fail.c, hm, h]
    exact hK _ _ (by omega) (fun j hj => rfl) hm
theorem tcode_reader_number.w {m : Sto} {x p : Nat} {K : CR → Sto → Nat → Prop} (s : List Nat) (hl : Byt s) (hn : s.length ≤ 10000) (a n most : Nat) (hm : m p = rcT s a n 0)
    (hK : ∀ m' x', x ≤ x' → (∀ j, j ≠ p → m' j = m j) → m' p = rcT s (numT s a most).2.1 n (numT s a most).2.2 → K (.ret (.i .i64 (numT s a most).1)) m' x') :
    w ctx (envOf [.p p 0, .i .i64 most]) m x [] none none (RetG ctx tcode_reader_number.c.rs K) tcode_reader_number.c.code := by
  have hG := octet_Get.a s a hl hn
  have hf : ctx.frz tcode_reader_fail.n = false := rfl
  unfold numT at hK
  generalize getS s a = r at *
  obtain ⟨r1, r2, r3⟩ := r
  unfold t3 at hG
  simp only at hG hK
  have hm' := hm
  unfold rcT at hm'
  by_cases h3 : r3 = 0
  · subst h3
    rw [if_neg (by omega)] at hK
    by_cases h4 : most ≤ r1
    · rw [if_pos h4] at hK
      have h4' : (most : Int) ≤ r1 := by omega
      simp +contextual (disch := omega) [Nat.add_assoc, Int.add_assoc, if_pos, if_neg, -Int.not_lt, -Int.not_le, -Nat.not_lt, -Nat.not_le, -List.length_flatMap, tcode_reader_number.c, hm', ansK hG, h4']
      rw [CallX_op (by rfl)]
      refine openg_w rfl rfl (.inl rfl) ?_
      rw [hf]
      refine tcode_reader_fail.w s a n 0 20 hm ?_
      intro m2 x2 g1 g2 g3
      simp +contextual (disch := omega) [Nat.add_assoc, Int.add_assoc, if_pos, if_neg, -Int.not_lt, -Int.not_le, -Nat.not_lt, -Nat.not_le, -List.length_flatMap]
      exact hK _ _ (by omega) g2 g3
    · rw [if_neg h4] at hK
      have h4' : ¬ (most : Int) ≤ r1 := by omega
      simp +contextual (disch := omega) [Nat.add_assoc, Int.add_assoc, if_pos, if_neg, -Int.not_lt, -Int.not_le, -Nat.not_lt, -Nat.not_le, -List.length_flatMap, tcode_reader_number.c, hm', ansK hG, h4']
      exact hK _ _ (by omega) (fun j hj => Sto.sne _ _ _ _ hj) (Sto.seq _ _ _)
  · rw [if_pos h3] at hK
    simp +contextual (disch := omega) [Nat.add_assoc, Int.add_assoc, if_pos, if_neg, -Int.not_lt, -Int.not_le, -Nat.not_lt, -Nat.not_le, -List.length_flatMap, tcode_reader_number.c, hm', ansK hG, h3]
    rw [CallX_op (by rfl)]
    refine openg_w rfl rfl (.inl rfl) ?_
    rw [hf]
    refine tcode_reader_fail.w s a n 0 r3 hm ?_
    intro m2 x2 g1 g2 g3
    simp +contextual (disch := omega) [Nat.add_assoc, Int.add_assoc, if_pos, if_neg, -Int.not_lt, -Int.not_le, -Nat.not_lt, -Nat.not_le, -List.length_flatMap]
    exact hK _ _ (by omega) g2 g3
theorem tcode_reader_number.e {m : Sto} {x p : Nat} {K : CR → Sto → Nat → Prop} (s : List Nat) (a n e : Int) (most : Int) (he : e ≠ 0) (hm : m p = rcT s a n e)
    (hK : ∀ x', x ≤ x' → K (.ret (.i .i64 0)) m x') :
    Pi.w ctx (envOf [.p p 0, .i .i64 most]) m x [] none none (RetG ctx tcode_reader_number.c.rs K) tcode_reader_number.c.code := by
  unfold rcT at hm
  simp +contextual (disch := omega) [Nat.add_assoc, Int.add_assoc, if_pos, if_neg, -Int.not_lt, -Int.not_le, -Nat.not_lt, -Nat.not_le, -List.length_flatMap, tcode_reader_number.c, hm, he]
  exact hK _ (by omega)
/-- What a reading of levels comes to. -/
def LPost : LR → List L → Int → Int → Prop
  | .ok ls a, vs, a', e' => vs = ls ∧ a' = a ∧ e' = 0
  | .bad e, _, _, e' => e' = e ∧ e ≠ 0
theorem LR.pre_pre (a b : List L) (r : LR) : (r.pre b).pre a = r.pre (a ++ b) := by
  cases r with
  | ok ls x => simp [LR.pre]
  | bad e => rfl
theorem LR.pre_nil (r : LR) : r.pre [] = r := by
  cases r with
  | ok ls x => simp [LR.pre]
  | bad e => rfl
theorem lvR_bad {s : List Nat} {a e : Nat} (hr : lvR s a = .bad e) : e ≠ 0 := by
  unfold lvR at hr
  split at hr
  · cases hr; omega
  · exact rd_bad _ _ _ _ _ hr
theorem InnM.apG {α : Type} {f : α → List V} {k : Nat} [hc0 : Cel f k] {p x0 slot lo x d : Nat} {m m' : Sto} {B : V} {vs : List α} {cs : List V} {v : V} {ws : Ws} (hI : InnM p x0 m') (hB : Bn m B f k vs lo x d) (hm : ∀ j, lo ≤ j → j < x → m' j = m j) (hx : x0 ≤ lo) (hs : x0 ≤ slot) (hc : innL (orNew [p] x0) cs = true)
    (h : apV m' k B cs 1 slot = some (v, ws)) : InnM p x0 (m'.app ws) ∧ v.inn (orNew [p] x0) = true := by
  have hin : (orNew [p] x0) slot = true := by simp [orNew]; omega
  rcases hB with ⟨rfl, rfl⟩ | ⟨b, cc, rfl, h2, ⟨h3, h4⟩, h5, h6⟩
  · rw [apV_ns, if_neg (by omega), if_pos (by decide)] at h
    simp only [Option.some.injEq, Prod.mk.injEq] at h
    obtain ⟨rfl, rfl⟩ := h
    refine ⟨?_, by simpa [V.inn] using hin⟩
    rw [sapp_cons, sapp_nil]
    exact hI.set (fun _ => by simpa [innO] using hc)
  · have hb := hI b (by omega)
    rw [hm b h5 h6, h2] at hb
    simp only [innO] at hb
    rw [apV_ms, if_neg (by omega), hm b h5 h6, h2, apO_cells] at h
    split at h
    · simp only [Option.some.injEq, Prod.mk.injEq] at h
      obtain ⟨rfl, rfl⟩ := h
      refine ⟨?_, by simpa [V.inn] using hin⟩
      rw [sapp_cons, sapp_cons, sapp_nil, List.take_of_length_le (by rw [h3]; exact Nat.le_refl _)]
      exact (hI.set (fun _ => rfl)).set (fun _ => by simpa [innO] using innL_app hb hc)
    · cases h
theorem innL_sV {α : Type} (S : Nat → Bool) (f : α → List V) (l : List α) : (sV f l).inn S = true := rfl
theorem innL_cL (S : Nat → Bool) (v : L) : innL S (cL v) = true := by rw [cL_at]; rfl
theorem InnM.of {p x : Nat} {m m' : Sto} (h : InnM p x m) (hp : p < x) (hm : ∀ j, j ≠ p → m' j = m j) : InnM p x m' := fun j hj => by rw [hm j (by omega)]; exact h j hj
set_option maxHeartbeats 1000000 in
theorem tcode_reader_levels.w {m : Sto} {x p x0 : Nat} {K : CR → Sto → Nat → Prop} (s : List Nat) (hl : Byt s) (hn : s.length ≤ 10000) (a n many : Nat) (hmany : many ≤ 5) (hp : p < x0) (hx0 : x0 ≤ x) (hm : m p = rcT s a n 0) (hI : InnM p x0 m)
    (hK : ∀ m' x' B vs (a' e' : Int), LPost (rdLs s many a) vs a' e' → x ≤ x' → (∀ j, j < x → j ≠ p → m' j = m j) → m' p = rcT s a' n e' → Bn m' B cL 3 vs x x' 0 → InnM p x0 m' → B.inn (orNew [p] x0) = true → K (.ret B) m' x') :
    w ctx (envOf [.p p 0, .i .i64 many]) m x [] none none (RetG ctx tcode_reader_levels.c.rs K) tcode_reader_levels.c.code := by
  have hf : ctx.frz tcode_reader_fail.n = false := rfl
  simp +contextual (disch := omega) [Nat.add_assoc, Int.add_assoc, if_pos, if_neg, -Int.not_lt, -Int.not_le, -Nat.not_lt, -Nat.not_le, -List.length_flatMap, tcode_reader_levels.c]
  refine for_w (fun i e' m' x' => ∃ B vs ai, e' 0 = .p p 0 ∧ e' 4 = B ∧ e' 8 = .i .i64 many ∧ e' 9 = .i .i64 i ∧ x ≤ x' ∧ Bn m' B cL 3 vs x x' 0 ∧ vs.length = i ∧ m' p = rcT s (ai : Nat) n 0 ∧ rdLs s many a = (rdLs s (many - i) ai).pre vs ∧ (∀ j, j < x → j ≠ p → m' j = m j) ∧ InnM p x0 m' ∧ B.inn (orNew [p] x0) = true) many ?_ ?_ ?_
  · exact ⟨.ns, [], a, by simp +contextual (disch := omega) [Nat.add_assoc, Int.add_assoc, if_pos, if_neg, -Int.not_lt, -Int.not_le, -Nat.not_lt, -Nat.not_le, -List.length_flatMap], by simp +contextual (disch := omega) [Nat.add_assoc, Int.add_assoc, if_pos, if_neg, -Int.not_lt, -Int.not_le, -Nat.not_lt, -Nat.not_le, -List.length_flatMap], by simp +contextual (disch := omega) [Nat.add_assoc, Int.add_assoc, if_pos, if_neg, -Int.not_lt, -Int.not_le, -Nat.not_lt, -Nat.not_le, -List.length_flatMap], by simp +contextual (disch := omega) [Nat.add_assoc, Int.add_assoc, if_pos, if_neg, -Int.not_lt, -Int.not_le, -Nat.not_lt, -Nat.not_le, -List.length_flatMap], by omega, Bn.nil, rfl, hm, by rw [LR.pre_nil]; rfl, fun _ _ _ => rfl, hI, rfl⟩
  · rintro i e' m' x' hi ⟨B, vs, ai, g1, g2, g3, g4, g5, g6, g7, g8, g9, g10, g11, g12⟩
    have hG := lcode_Get.a s ai hl hn
    rw [getLV_lvR] at hG
    rw [show many - i = (many - (i + 1)) + 1 by omega] at g9
    rw [rdLs_succ] at g9
    have g8' := g8
    unfold rcT at g8
    cases hr : lvR s ai with
    | bad e =>
      rw [hr] at hG g9
      unfold rrV at hG
      have he : e ≠ 0 := lvR_bad hr
      simp +contextual (disch := omega) [Nat.add_assoc, Int.add_assoc, if_pos, if_neg, -Int.not_lt, -Int.not_le, -Nat.not_lt, -Nat.not_le, -List.length_flatMap, tcode_reader_levels.b1, g1, g2, g3, g4, g8, hi, ansK hG, he]
      rw [CallX_op (by rfl)]
      refine openg_w rfl rfl (.inl rfl) ?_
      rw [hf]
      generalize hM : Sto.set (Sto.set m' (x' + 13) _) _ _ = M
      have hMj : ∀ j, j < x' → M j = m' j := fun j hj => by rw [← hM, Sto.sne _ _ _ _ (by omega), Sto.sne _ _ _ _ (by omega)]
      have hMI : InnM p x0 M := by rw [← hM]; exact (g11.set (fun _ => rfl)).set (fun _ => by simpa [innO] using innL_cL _ (.mk 0 0 []))
      refine tcode_reader_fail.w s ai n 0 e ((hMj p (by omega)).trans g8') ?_
      intro m2 x2 k1 k2 k3
      simp +contextual (disch := omega) [Nat.add_assoc, Int.add_assoc, if_pos, if_neg, -Int.not_lt, -Int.not_le, -Nat.not_lt, -Nat.not_le, -List.length_flatMap, g2]
      refine hK _ _ B vs ai e ?_ (by omega) (fun j h1 h2 => ?_) k3 (g6.up (by omega) (fun j h1 h2 => ?_)) (hMI.of hp k2) g12
      · rw [g9]; exact ⟨rfl, he⟩
      · rw [k2 j h2, hMj j (by omega), g10 j h1 h2]
      · rw [k2 j (by omega), hMj j h2]
    | ok v a2 n2 =>
      rw [hr] at hG g9
      unfold rrV at hG
      simp +contextual (disch := omega) [Nat.add_assoc, Int.add_assoc, if_pos, if_neg, -Int.not_lt, -Int.not_le, -Nat.not_lt, -Nat.not_le, -List.length_flatMap, tcode_reader_levels.b1, g1, g2, g3, g4, g8, hi, ansK hG]
      generalize hM2 : Sto.set _ (x' + 26) _ = M2
      have hj2 : ∀ j, j < x' → j ≠ p → M2 j = m' j := fun j h1 h2 => by rw [← hM2, Sto.sne _ _ _ _ (by omega), Sto.sne _ _ _ _ (by omega), Sto.sne _ _ _ _ (by omega), Sto.sne _ _ _ _ (by omega)]
      have hp2 : M2 p = rcT s a2 n 0 := by rw [← hM2, Sto.sne _ _ _ _ (by omega), Sto.seq]; rfl
      have hI2 : InnM p x0 M2 := by
        rw [← hM2]
        exact (((g11.set (fun _ => rfl)).set (fun _ => by simpa [innO] using innL_cL _ v)).set (fun _ => rfl)).set (fun _ => by simpa [innO] using innL_cL _ v)
      refine opK_with (fun u ws => InnM p x0 (M2.app ws) ∧ u.inn (orNew [p] x0) = true) (fun u ws h => InnM.apG hI2 g6 (fun j h1 h2 => hj2 j h2 (by omega)) (by omega) (by omega) (innL_cL _ v) h) ?_
      refine g6.ap v (fun j h1 h2 => hj2 j h2 (by omega)) (by omega) (by omega) (FzAt.self (fun D => cL_fz v D)) (cL_len v) rfl (by omega) ?_
      intro B' ws2 M3 z0 z1 z2 z3 z4
      rw [z0] at z4
      simp +contextual (disch := omega) [Nat.add_assoc, Int.add_assoc, if_pos, if_neg, -Int.not_lt, -Int.not_le, -Nat.not_lt, -Nat.not_le, -List.length_flatMap, z0, g1, g2, g3, g4]
      refine ⟨by omega, vs ++ [v], z1.to rfl (by omega), by simp; omega, a2, ?_, ?_, fun j h1 h2 => ?_, z4.1, z4.2⟩
      · rw [z2 p (by omega), hp2]
      · rw [g9, LR.pre_pre]
      · rw [z2 j h1, hj2 j (by omega) h2, g10 j h1 h2]
  · rintro e' m' x' ⟨B, vs, ai, g1, g2, g3, g4, g5, g6, g7, g8, g9, g10, g11, g12⟩
    rw [Nat.sub_self] at g9
    simp +contextual (disch := omega) [Nat.add_assoc, Int.add_assoc, if_pos, if_neg, -Int.not_lt, -Int.not_le, -Nat.not_lt, -Nat.not_le, -List.length_flatMap, tcode_reader_levels.b1, g1, g2, g3, g4]
    refine hK _ _ _ vs ai 0 ?_ (by omega) g10 g8 (g6.up (by omega) (fun j h1 h2 => rfl)) g11 g12
    rw [g9]
    simp [rdLs, LR.pre, LPost]
end Pi


set_option linter.unusedSimpArgs false
set_option linter.unusedVariables false
namespace Pi
/-- What is frozen lies where it is looked for. -/
theorem FzAt.ids {m : Sto} {lo x k : Nat} {cs out : List V} (h : FzAt m lo x k cs out) (d : Nat) (hd : k ≤ d) : ∃ ids, frzL (der m d) cs = some (out, ids) ∧ ∀ i ∈ ids, lo ≤ i ∧ i < x := by
  obtain ⟨m2, hm2⟩ : ∃ m2 : Sto, m2 = fun j => if lo ≤ j ∧ j < x then m j else none := ⟨_, rfl⟩
  obtain ⟨ids, e⟩ := h m2 (fun j h1 h2 => by rw [hm2]; exact if_pos ⟨h1, h2⟩) d hd
  have hid : ∀ i ∈ ids, lo ≤ i ∧ i < x := fun i hi => by
    by_cases hc : lo ≤ i ∧ i < x
    · exact hc
    · have hn : m2 i = none := by rw [hm2]; exact if_neg hc
      rcases frzL_there (der_there d) cs e i hi with ⟨_, _, h⟩ | ⟨_, _, _, h⟩ | ⟨_, h⟩ <;> rw [hn] at h <;> cases h
  exact ⟨ids, frzL_same (der_same (m := m2) (m' := m) d) cs e (fun l hl => by rw [hm2]; exact (if_pos (hid l hl)).symm), hid⟩
/-- What stands behind a maker's call: with where it lies. -/
def MadeI (l : List Nat) (a x0 x d : Nat) (m : Sto) (r : L × Nat) (K : CR → Sto → Nat → Prop) : Prop :=
  ∀ cs m' x', cs.length = 3 → m' a = some (.cells [sV cU l, .i .i64 (r.2 : Nat)] false) → (∀ j, j < x → j ≠ a → m' j = m j) → x ≤ x' → FzAt m' x x' d cs (cL r.1) → InnM a x0 m' → innL (orNew [a] x0) cs = true → K (.ret (.ag cs)) m' x'
set_option maxHeartbeats 4000000 in
theorem law02_Maker_Level.w (l : List Nat) (hb : Byt l) (p q : Nat) (hp : p ≤ 256) (hq : q ≤ 256) (a : Nat) : ∀ (d : Nat), d ≤ 10 → ∀ (i : Nat) {m : Sto} {x x0 : Nat} {K : CR → Sto → Nat → Prop}, x0 ≤ x → a < x0 → InnM a x0 m → i + 4 ^ (d + 2) ≤ 1000000000 → a < x → m a = some (.cells [sV cU l, .i .i64 i] false) →
    MadeI l a x0 x (d + 2) m (mkS l p q (d + 1) i) K →
    Pi.w ctx (envOf [.p a 0, .i .i64 p, .i .i64 q, .i .i64 ((d : Int) + 1)]) m x [] none none (RetG ctx law02_Maker_Level.c.rs K) law02_Maker_Level.c.code := by
  have hfL : ctx.frz law02_Maker_Level.n = false := rfl
  intro d
  induction d using Nat.strongRecOn with
  | ind d ih =>
  intro hd i m x x0 K hx0 ha0 hI hi hax hm hK
  have h4 : 16 ≤ 4 ^ (d + 2) := by
    calc 16 = 4 ^ 2 := rfl
      _ ≤ 4 ^ (d + 2) := Nat.pow_le_pow_right (by omega) (by omega)
  simp +contextual (disch := omega) [Nat.add_assoc, Int.add_assoc, if_pos, if_neg, -Int.not_lt, -Int.not_le, -Nat.not_lt, -Nat.not_le, -List.length_flatMap, law02_Maker_Level.c]
  refine pick_w (l := l) (i := i) (n := 10) (by simp +contextual (disch := omega) [Nat.add_assoc, Int.add_assoc, if_pos, if_neg, -Int.not_lt, -Int.not_le, -Nat.not_lt, -Nat.not_le, -List.length_flatMap, hm]) hb (by omega) (by omega) ?_
  intro x1 hx1
  have hk := pickS_lt l i 10 (by omega)
  rw [mkS_eq] at hK
  generalize pickS l i 10 = k at hk hK
  have hk4 : ((k : Int)).tmod 4 = ((k % 4 : Nat) : Int) := by rw [Int.tmod_eq_emod_of_nonneg (by omega)]; omega
  generalize hkk : (if d = 0 then k % 4 else k) = kk at hK
  simp only at hK
  have hkc : (d = 0 ∧ (k : Int).tmod 4 = kk ∧ kk < 4) ∨ (0 < d ∧ (k : Int) = kk ∧ kk < 10) := by
    rcases Nat.eq_zero_or_pos d with h0 | h0
    · rw [if_pos h0] at hkk
      exact .inl ⟨h0, by rw [hk4, hkk], by omega⟩
    · rw [if_neg (by omega)] at hkk
      exact .inr ⟨h0, by omega, by omega⟩
  clear hk4 hkk
  have leaf : ∀ (m' : Sto) (x' : Nat) (u v : Int), FzAt m' x x' (d + 2) [.i .i64 u, .i .i64 v, .ns] (cL (.mk u v [])) := fun m' x' u v m2 _ dd _ => ⟨[], by simp⟩
  by_cases hA : (kk = 1 ∧ 0 < p) ∨ (kk = 2 ∧ 0 < p ∧ q = 0)
  · rw [if_pos hA] at hK
    have fin : ∀ (m' : Sto) (x' : Nat), x < x' → m' x = some (.cells [.i .i64 5, .i .i64 (pickS l (i + 1) p : Nat), .ns] false) → m' a = some (.cells [sV cU l, .i .i64 ((i + 2 : Nat) : Int)] false) → (∀ j, j < x → j ≠ a → m' j = m j) → InnM a x0 m' → K (.ret (.ag [.i .i64 5, .i .i64 (pickS l (i + 1) p : Nat), .ns])) m' x' :=
      fun m' x' h1 h2 h3 h4 h5 => hK _ m' x' rfl h3 h4 (by omega) (leaf _ _ _ _) h5 rfl
    rcases hA with ⟨hA1, hA2⟩ | ⟨hA1, hA2, hA3⟩ <;> rcases hkc with ⟨h0, hk4, h5⟩ | ⟨h0, hk4, h5⟩
    all_goals (simp +contextual (disch := omega) [Nat.add_assoc, Int.add_assoc, if_pos, if_neg, -Int.not_lt, -Int.not_le, -Nat.not_lt, -Nat.not_le, -List.length_flatMap, hm, hk4])
    all_goals refine pick_w (l := l) (i := i + 1) (n := p) (by simp +contextual (disch := omega) [Nat.add_assoc, Int.add_assoc, if_pos, if_neg, -Int.not_lt, -Int.not_le, -Nat.not_lt, -Nat.not_le, -List.length_flatMap]) hb (by omega) (by omega) ?_
    all_goals intro x2 hx2
    all_goals (simp +contextual (disch := omega) [Nat.add_assoc, Int.add_assoc, if_pos, if_neg, -Int.not_lt, -Int.not_le, -Nat.not_lt, -Nat.not_le, -List.length_flatMap])
    all_goals refine fin _ _ (by omega) (by simp +contextual (disch := omega) [Nat.add_assoc, Int.add_assoc, if_pos, if_neg, -Int.not_lt, -Int.not_le, -Nat.not_lt, -Nat.not_le, -List.length_flatMap]) (by simp +contextual (disch := omega) [Nat.add_assoc, Int.add_assoc, if_pos, if_neg, -Int.not_lt, -Int.not_le, -Nat.not_lt, -Nat.not_le, -List.length_flatMap]) (by simp +contextual (disch := omega) [Nat.add_assoc, Int.add_assoc, if_pos, if_neg, -Int.not_lt, -Int.not_le, -Nat.not_lt, -Nat.not_le, -List.length_flatMap]) (by repeat (first | exact hI | refine InnM.set ?_ (fun _ => rfl)))
  · rw [if_neg hA] at hK
    by_cases hB : (kk = 2 ∨ kk = 3) ∧ 0 < q
    · rw [if_pos hB] at hK
      have fin : ∀ (m' : Sto) (x' : Nat), x < x' → m' x = some (.cells [.i .i64 6, .i .i64 (pickS l (i + 1) q : Nat), .ns] false) → m' a = some (.cells [sV cU l, .i .i64 ((i + 2 : Nat) : Int)] false) → (∀ j, j < x → j ≠ a → m' j = m j) → InnM a x0 m' → K (.ret (.ag [.i .i64 6, .i .i64 (pickS l (i + 1) q : Nat), .ns])) m' x' :=
        fun m' x' h1 h2 h3 h4 h5 => hK _ m' x' rfl h3 h4 (by omega) (leaf _ _ _ _) h5 rfl
      obtain ⟨hB1, hB2⟩ := hB
      rcases hB1 with hB1 | hB1 <;> rcases Nat.eq_zero_or_pos p with h6 | h6 <;> rcases hkc with ⟨h0, hk4, h5⟩ | ⟨h0, hk4, h5⟩
      all_goals (simp +contextual (disch := omega) [Nat.add_assoc, Int.add_assoc, if_pos, if_neg, -Int.not_lt, -Int.not_le, -Nat.not_lt, -Nat.not_le, -List.length_flatMap, hm, hk4])
      all_goals refine pick_w (l := l) (i := i + 1) (n := q) (by simp +contextual (disch := omega) [Nat.add_assoc, Int.add_assoc, if_pos, if_neg, -Int.not_lt, -Int.not_le, -Nat.not_lt, -Nat.not_le, -List.length_flatMap]) hb (by omega) (by omega) ?_
      all_goals intro x2 hx2
      all_goals (simp +contextual (disch := omega) [Nat.add_assoc, Int.add_assoc, if_pos, if_neg, -Int.not_lt, -Int.not_le, -Nat.not_lt, -Nat.not_le, -List.length_flatMap])
      all_goals refine fin _ _ (by omega) (by simp +contextual (disch := omega) [Nat.add_assoc, Int.add_assoc, if_pos, if_neg, -Int.not_lt, -Int.not_le, -Nat.not_lt, -Nat.not_le, -List.length_flatMap]) (by simp +contextual (disch := omega) [Nat.add_assoc, Int.add_assoc, if_pos, if_neg, -Int.not_lt, -Int.not_le, -Nat.not_lt, -Nat.not_le, -List.length_flatMap]) (by simp +contextual (disch := omega) [Nat.add_assoc, Int.add_assoc, if_pos, if_neg, -Int.not_lt, -Int.not_le, -Nat.not_lt, -Nat.not_le, -List.length_flatMap]) (by repeat (first | exact hI | refine InnM.set ?_ (fun _ => rfl)))
    · rw [if_neg hB] at hK
      by_cases hC : kk < 4
      · rw [if_pos hC] at hK
        have fin : ∀ (m' : Sto) (x' : Nat), x < x' → m' a = some (.cells [sV cU l, .i .i64 ((i + 1 : Nat) : Int)] false) → (∀ j, j < x → j ≠ a → m' j = m j) → InnM a x0 m' → K (.ret (.ag [.i .i64 1, .i .i64 0, .ns])) m' x' :=
          fun m' x' h1 h3 h4 h5 => hK _ m' x' rfl h3 h4 (by omega) (leaf _ _ _ _) h5 rfl
        rcases (by omega : kk = 0 ∨ kk = 1 ∨ kk = 2 ∨ kk = 3) with hC1 | hC1 | hC1 | hC1 <;> rcases hkc with ⟨h0, hk4, h5⟩ | ⟨h0, hk4, h5⟩
        all_goals (simp +contextual (disch := omega) [Nat.add_assoc, Int.add_assoc, if_pos, if_neg, -Int.not_lt, -Int.not_le, -Nat.not_lt, -Nat.not_le, -List.length_flatMap, hm, hk4])
        all_goals refine fin _ _ (by omega) (by simp +contextual (disch := omega) [Nat.add_assoc, Int.add_assoc, if_pos, if_neg, -Int.not_lt, -Int.not_le, -Nat.not_lt, -Nat.not_le, -List.length_flatMap]) (by simp +contextual (disch := omega) [Nat.add_assoc, Int.add_assoc, if_pos, if_neg, -Int.not_lt, -Int.not_le, -Nat.not_lt, -Nat.not_le, -List.length_flatMap]) (by repeat (first | exact hI | refine InnM.set ?_ (fun _ => rfl)))
      · rw [if_neg hC] at hK
        rcases hkc with ⟨h0, hk4, h5⟩ | ⟨h0, hk4, h5⟩
        · omega
        obtain ⟨d, rfl⟩ : ∃ e, d = e + 1 := ⟨d - 1, by omega⟩
        have h44 : 4 ^ (d + 1 + 2) = 4 * 4 ^ (d + 2) := by rw [Nat.pow_succ, Nat.mul_comm]
        have hdd : (d : Int) + 2 - 1 = d + 1 := by omega
        by_cases hD : kk < 6
        · rw [if_pos hD] at hK
          simp +contextual (disch := omega) [Nat.add_assoc, Int.add_assoc, if_pos, if_neg, -Int.not_lt, -Int.not_le, -Nat.not_lt, -Nat.not_le, -List.length_flatMap, hm, hk4, hdd]
          refine openg_w law02_Maker_Level.f rfl (.inl rfl) ?_
          rw [hfL]
          refine ih d (by omega) (by omega) (i + 1) (x0 := x0) (by omega) ha0 (by repeat (first | exact hI | refine InnM.set ?_ (fun _ => rfl))) (by omega) (by omega) (by simp +contextual (disch := omega) [Nat.add_assoc, Int.add_assoc, if_pos, if_neg, -Int.not_lt, -Int.not_le, -Nat.not_lt, -Nat.not_le, -List.length_flatMap]) ?_
          intro cs m1 x2 q1 q2 q3 q4 q5 q6 q7
          have ht : cs.take 3 = cs := List.take_of_length_le (by omega)
          have q3x := q3 x (by omega) (by omega)
          simp (disch := omega) at q3x
          generalize mkS l p q (d + 1) (i + 1) = r1 at hK q2 q5
          simp +contextual (disch := omega) [Nat.add_assoc, Int.add_assoc, if_pos, if_neg, -Int.not_lt, -Int.not_le, -Nat.not_lt, -Nat.not_le, -List.length_flatMap, q1, q3x, ht]
          refine hK _ _ _ rfl (by simp +contextual (disch := omega) [Nat.add_assoc, Int.add_assoc, if_pos, if_neg, -Int.not_lt, -Int.not_le, -Nat.not_lt, -Nat.not_le, -List.length_flatMap, q2]) (fun j h1 h2 => ?_) (by omega) ?_ ((q6.set (fun _ => by simpa [innO] using q7)).set (fun _ => by simp [innO, innL, V.inn, orNew]; omega)) (by simp [innL, V.inn, orNew]; omega)
          · have e2 := q3 j (by omega) h2
            simp +contextual (disch := omega) [Nat.add_assoc, Int.add_assoc, if_pos, if_neg, -Int.not_lt, -Int.not_le, -Nat.not_lt, -Nat.not_le, -List.length_flatMap, e2]
          · have z2 := (q5.low (lo' := x + 1) (by omega)).ms (esz := 3) (n := 1) (m' := (m1.set x2 (some (.cells cs false))).set x (some (.cells [.i .i64 2, .i .i64 0, .ms x2 0 1 3] false))) (x' := x2 + 3) (a := x2) (ro := false) (cs := cs) (by simp +contextual (disch := omega) [Nat.add_assoc, Int.add_assoc, if_pos, if_neg, -Int.not_lt, -Int.not_le, -Nat.not_lt, -Nat.not_le, -List.length_flatMap]) (by simp +contextual (disch := omega) [Nat.add_assoc, Int.add_assoc, if_pos, if_neg, -Int.not_lt, -Int.not_le, -Nat.not_lt, -Nat.not_le, -List.length_flatMap]) (by omega) (by omega) (by omega) (by simp)
            have z3 := (FzAt.fr (m := _) (lo := x + 1) (x := x2 + 3) (k := d + 1 + 2) (cs := [.i .i64 2, .i .i64 0]) (by simp)).app z2
            rw [cL_at]
            simpa [sV] using z3.low (lo' := x) (by omega)
        · rw [if_neg hD] at hK
          by_cases hE : kk < 8
          · rw [if_pos hE] at hK
            simp +contextual (disch := omega) [Nat.add_assoc, Int.add_assoc, if_pos, if_neg, -Int.not_lt, -Int.not_le, -Nat.not_lt, -Nat.not_le, -List.length_flatMap, hm, hk4, hdd]
            refine openg_w law02_Maker_Level.f rfl (.inl rfl) ?_
            rw [hfL]
            refine ih d (by omega) (by omega) (i + 1) (x0 := x0) (by omega) ha0 (by repeat (first | exact hI | refine InnM.set ?_ (fun _ => rfl))) (by omega) (by omega) (by simp +contextual (disch := omega) [Nat.add_assoc, Int.add_assoc, if_pos, if_neg, -Int.not_lt, -Int.not_le, -Nat.not_lt, -Nat.not_le, -List.length_flatMap]) ?_
            intro cs m1 x2 q1 q2 q3 q4 q5 q6 q7
            have ht : cs.take 3 = cs := List.take_of_length_le (by omega)
            simp +contextual (disch := omega) [Nat.add_assoc, Int.add_assoc, if_pos, if_neg, -Int.not_lt, -Int.not_le, -Nat.not_lt, -Nat.not_le, -List.length_flatMap, q1, hdd]
            have hb1 := mkS_bd l p q (d + 1) (i + 1)
            have hb2 : 4 ^ (d + 1 + 1) = 4 ^ (d + 2) := rfl
            have hdr : (cs ++ [V.i .i64 0, .i .i64 0, .ns]).drop 6 = [] := List.drop_of_length_le (by simp; omega)
            generalize mkS l p q (d + 1) (i + 1) = r1 at hK q2 q5 hb1
            refine openg_w law02_Maker_Level.f rfl (.inl rfl) ?_
            rw [hfL]
            refine ih d (by omega) (by omega) r1.2 (x0 := x0) (by omega) ha0 q6 (by omega) (by omega) q2 ?_
            intro cs2 m2 x3 p1 p2 p3 p4 p5 p6 p7
            have ht2 : cs2.take 3 = cs2 := List.take_of_length_le (by omega)
            have e1 := (p3 x (by omega) (by omega)).trans (q3 x (by omega) (by omega))
            simp (disch := omega) at e1
            generalize mkS l p q (d + 1) r1.2 = r2 at hK p2 p5
            simp +contextual (disch := omega) [Nat.add_assoc, Int.add_assoc, if_pos, if_neg, -Int.not_lt, -Int.not_le, -Nat.not_lt, -Nat.not_le, -List.length_flatMap, q1, p1, ht, ht2, e1, hdr]
            refine hK _ _ _ rfl (by simp +contextual (disch := omega) [Nat.add_assoc, Int.add_assoc, if_pos, if_neg, -Int.not_lt, -Int.not_le, -Nat.not_lt, -Nat.not_le, -List.length_flatMap, p2]) (fun j h1 h2 => ?_) (by omega) ?_ ((p6.set (fun _ => by simpa [innO] using innL_app q7 p7)).set (fun _ => by simp [innO, innL, V.inn, orNew]; omega)) (by simp [innL, V.inn, orNew]; omega)
            · have e2 := (p3 j (by omega) h2).trans (q3 j (by omega) h2)
              simp +contextual (disch := omega) [Nat.add_assoc, Int.add_assoc, if_pos, if_neg, -Int.not_lt, -Int.not_le, -Nat.not_lt, -Nat.not_le, -List.length_flatMap, e2]
            · have z := (q5.low (lo' := x + 1) (by omega)).up (x' := x3) (m' := m2) (by omega) (Nat.le_refl _) (fun j h1 h2 => p3 j (by omega) (by omega))
              have z2 := (z.app (p5.low (by omega))).ms (esz := 3) (n := 2) (m' := (m2.set x3 (some (.cells (cs ++ cs2) false))).set x (some (.cells [.i .i64 3, .i .i64 0, .ms x3 0 2 3] false))) (x' := x3 + 3) (a := x3) (ro := false) (cs := cs ++ cs2) (by simp +contextual (disch := omega) [Nat.add_assoc, Int.add_assoc, if_pos, if_neg, -Int.not_lt, -Int.not_le, -Nat.not_lt, -Nat.not_le, -List.length_flatMap]) (by simp +contextual (disch := omega) [Nat.add_assoc, Int.add_assoc, if_pos, if_neg, -Int.not_lt, -Int.not_le, -Nat.not_lt, -Nat.not_le, -List.length_flatMap]) (by omega) (by omega) (by omega) (by simp)
              have z3 := (FzAt.fr (m := _) (lo := x + 1) (x := x3 + 3) (k := d + 1 + 2) (cs := [.i .i64 3, .i .i64 0]) (by simp)).app z2
              rw [cL_at]
              simpa [sV] using z3.low (lo' := x) (by omega)
          · rw [if_neg hE] at hK
            simp +contextual (disch := omega) [Nat.add_assoc, Int.add_assoc, if_pos, if_neg, -Int.not_lt, -Int.not_le, -Nat.not_lt, -Nat.not_le, -List.length_flatMap, hm, hk4, hdd]
            refine openg_w law02_Maker_Level.f rfl (.inl rfl) ?_
            rw [hfL]
            refine ih d (by omega) (by omega) (i + 1) (x0 := x0) (by omega) ha0 (by repeat (first | exact hI | refine InnM.set ?_ (fun _ => rfl))) (by omega) (by omega) (by simp +contextual (disch := omega) [Nat.add_assoc, Int.add_assoc, if_pos, if_neg, -Int.not_lt, -Int.not_le, -Nat.not_lt, -Nat.not_le, -List.length_flatMap]) ?_
            intro cs m1 x2 q1 q2 q3 q4 q5 q6 q7
            have ht : cs.take 3 = cs := List.take_of_length_le (by omega)
            simp +contextual (disch := omega) [Nat.add_assoc, Int.add_assoc, if_pos, if_neg, -Int.not_lt, -Int.not_le, -Nat.not_lt, -Nat.not_le, -List.length_flatMap, q1, hdd]
            have hb1 := mkS_bd l p q (d + 1) (i + 1)
            have hb2 : 4 ^ (d + 1 + 1) = 4 ^ (d + 2) := rfl
            have hdr : (cs ++ [V.i .i64 0, .i .i64 0, .ns]).drop 6 = [] := List.drop_of_length_le (by simp; omega)
            generalize mkS l p q (d + 1) (i + 1) = r1 at hK q2 q5 hb1
            refine openg_w law02_Maker_Level.f rfl (.inl rfl) ?_
            rw [hfL]
            refine ih d (by omega) (by omega) r1.2 (x0 := x0) (by omega) ha0 q6 (by omega) (by omega) q2 ?_
            intro cs2 m2 x3 p1 p2 p3 p4 p5 p6 p7
            have ht2 : cs2.take 3 = cs2 := List.take_of_length_le (by omega)
            have e1 := (p3 x (by omega) (by omega)).trans (q3 x (by omega) (by omega))
            simp (disch := omega) at e1
            generalize mkS l p q (d + 1) r1.2 = r2 at hK p2 p5
            simp +contextual (disch := omega) [Nat.add_assoc, Int.add_assoc, if_pos, if_neg, -Int.not_lt, -Int.not_le, -Nat.not_lt, -Nat.not_le, -List.length_flatMap, q1, p1, ht, ht2, e1, hdr]
            refine hK _ _ _ rfl (by simp +contextual (disch := omega) [Nat.add_assoc, Int.add_assoc, if_pos, if_neg, -Int.not_lt, -Int.not_le, -Nat.not_lt, -Nat.not_le, -List.length_flatMap, p2]) (fun j h1 h2 => ?_) (by omega) ?_ ((p6.set (fun _ => by simpa [innO] using innL_app q7 p7)).set (fun _ => by simp [innO, innL, V.inn, orNew]; omega)) (by simp [innL, V.inn, orNew]; omega)
            · have e2 := (p3 j (by omega) h2).trans (q3 j (by omega) h2)
              simp +contextual (disch := omega) [Nat.add_assoc, Int.add_assoc, if_pos, if_neg, -Int.not_lt, -Int.not_le, -Nat.not_lt, -Nat.not_le, -List.length_flatMap, e2]
            · have z := (q5.low (lo' := x + 1) (by omega)).up (x' := x3) (m' := m2) (by omega) (Nat.le_refl _) (fun j h1 h2 => p3 j (by omega) (by omega))
              have z2 := (z.app (p5.low (by omega))).ms (esz := 3) (n := 2) (m' := (m2.set x3 (some (.cells (cs ++ cs2) false))).set x (some (.cells [.i .i64 4, .i .i64 0, .ms x3 0 2 3] false))) (x' := x3 + 3) (a := x3) (ro := false) (cs := cs ++ cs2) (by simp +contextual (disch := omega) [Nat.add_assoc, Int.add_assoc, if_pos, if_neg, -Int.not_lt, -Int.not_le, -Nat.not_lt, -Nat.not_le, -List.length_flatMap]) (by simp +contextual (disch := omega) [Nat.add_assoc, Int.add_assoc, if_pos, if_neg, -Int.not_lt, -Int.not_le, -Nat.not_lt, -Nat.not_le, -List.length_flatMap]) (by omega) (by omega) (by omega) (by simp)
              have z3 := (FzAt.fr (m := _) (lo := x + 1) (x := x3 + 3) (k := d + 1 + 2) (cs := [.i .i64 4, .i .i64 0]) (by simp)).app z2
              rw [cL_at]
              simpa [sV] using z3.low (lo' := x) (by omega)
end Pi

