/- Contracts: levels as bytes (layer 3): the document's Get; what stands at a place. -/
import Derived.Test.YtbkkigmlkafeiaaC03f
import Derived.Test.YtbkkigmlkafeiaaEnc
set_option linter.unusedSimpArgs false
set_option linter.unusedVariables false
namespace Pi
theorem RR.bind_ok {r : RR} {f : L → Nat → Nat → RR} {v : L} {a n : Nat} (h : r.bind f = .ok v a n) : ∃ v' a' n', r = .ok v' a' n' ∧ f v' a' n' = .ok v a n := by
  cases r with
  | bad e => cases h
  | ok v' a' n' => exact ⟨v', a', n', rfl, h⟩
theorem rd_ok (l : List Nat) : ∀ (d a n : Nat) (v : L) (a' n' : Nat), rdL l d a n = .ok v a' n' → v.Ok
  | 0, _, _, _, _, _, h => by simp [rdL] at h
  | d + 1, a, n, v, a', n', h => by
    have nil : ∀ k u : Nat, k ≤ 10 → u ≤ 10 → (L.mk k u []).Ok := fun k u h1 h2 => .mk (by simp) (by omega) (by omega) (fun x hx => by cases hx)
    unfold rdL at h
    split at h
    · cases h
    split at h
    · cases h
    split at h
    · cases h
      exact nil 1 0 (by omega) (by omega)
    split at h
    · rename_i hk
      split at h
      · cases h
      generalize hg : (if (getS l a).1 = 5 then 5 else 10 : Nat) = g at h
      have hg10 : g ≤ 10 := by rw [← hg]; split <;> omega
      split at h
      · cases h
      rename_i hu
      cases h
      exact nil _ _ (by omega) (by omega)
    split at h
    · obtain ⟨v1, a1, n1, h1, h2⟩ := RR.bind_ok h
      cases h2
      have := rd_ok l d _ _ _ _ _ h1
      exact .mk (by simp) (by omega) (by omega) (fun x hx => by rw [List.mem_singleton.1 hx]; exact this)
    split at h
    · rename_i hk
      obtain ⟨v1, a1, n1, h1, h2⟩ := RR.bind_ok h
      obtain ⟨v2, a2, n2, h3, h4⟩ := RR.bind_ok h2
      cases h4
      have k1 := rd_ok l d _ _ _ _ _ h1
      have k2 := rd_ok l d _ _ _ _ _ h3
      refine .mk (by simp) (by omega) (by omega) (fun x hx => ?_)
      rcases List.mem_cons.1 hx with rfl | hx
      · exact k1
      · rw [List.mem_singleton.1 hx]; exact k2
    · cases h
end Pi


set_option linter.unusedSimpArgs false
set_option linter.unusedVariables false
namespace Pi
end Pi


set_option linter.unusedSimpArgs false
set_option linter.unusedVariables false
namespace Pi
end Pi


set_option linter.unusedSimpArgs false
set_option linter.unusedVariables false
namespace Pi
end Pi


set_option linter.unusedSimpArgs false
set_option linter.unusedVariables false
namespace Pi
/-! Made levels are right; what is more. -/
mutual
def szL (l : L) : Nat := match l with | .mk _ _ ks => 1 + szLs ks
def szLs (l : List L) : Nat := match l with | [] => 0 | a :: r => szL a + szLs r
end
theorem nodesL_le (ks : List L) (h : ∀ k ∈ ks, ∀ m, nodesS k m ≤ szL k) : ∀ (m n : Int), nodesL ks m n ≤ n + szLs ks := by
  induction ks with
  | nil => intro m n; simp [nodesL, szLs]
  | cons k r ih =>
    intro m n
    simp only [nodesL, szLs]
    have h1 := h k (by simp)
    have h2 := ih (fun k hk => h k (by simp [hk]))
    split
    · have := h1 (m - n)
      have := h2 m (n + nodesS k (m - n))
      omega
    · have := h2 m n
      omega
theorem nodesS_le (l : L) : ∀ m, nodesS l m ≤ szL l := by
  induction l using L.ind with
  | h l ih =>
    intro m
    cases l with
    | mk k n ks =>
      have := nodesL_le ks ih m 1
      simp only [nodesS, szL]
      omega
end Pi


set_option linter.unusedSimpArgs false
set_option linter.unusedVariables false
namespace Pi
theorem RightS_of {l : L} {p q : Nat} (hp : p ≤ 5) (hq : q ≤ 10) (hz : szL l ≤ 100) (h : rightS l p q 12 = true) : RightS l p q = true := by
  unfold RightS
  have := nodesS_le l 101
  rw [if_neg (by omega)]
  simp [h]
  omega
end Pi


set_option linter.unusedSimpArgs false
set_option linter.unusedVariables false
namespace Pi
end Pi


set_option linter.unusedSimpArgs false
set_option linter.unusedVariables false
namespace Pi
theorem textL_1 : textL (.mk 1 0 []) = [1] := by
  rw [textL_eq]
  show digs 1 ++ (if (1 : Int) = 5 ∨ (1 : Int) = 6 then digs 0 else []) ++ [] = _
  rw [if_neg (by omega), digs_one (by omega)]
  rfl
theorem textL_5 (m : Nat) (h : m < 128) : textL (.mk 5 m []) = [5, m] := by
  rw [textL_eq]
  show digs 5 ++ (if (5 : Int) = 5 ∨ (5 : Int) = 6 then digs ((m : Int).toNat) else []) ++ [] = _
  rw [if_pos (.inl rfl), Int.toNat_natCast, digs_one (by omega), digs_one (by omega)]
  rfl
theorem textL_6 (m : Nat) (h : m < 128) : textL (.mk 6 m []) = [6, m] := by
  rw [textL_eq]
  show digs 6 ++ (if (6 : Int) = 5 ∨ (6 : Int) = 6 then digs ((m : Int).toNat) else []) ++ [] = _
  rw [if_pos (.inr rfl), Int.toNat_natCast, digs_one (by omega), digs_one (by omega)]
  rfl
theorem textL_2 (v : L) : textL (.mk 2 0 [v]) = 2 :: textL v := by
  rw [textL_eq]
  show digs 2 ++ (if (2 : Int) = 5 ∨ (2 : Int) = 6 then digs 0 else []) ++ [v].flatMap textL = _
  rw [if_neg (by omega), digs_one (by omega)]
  simp
theorem textL_3 (v u : L) : textL (.mk 3 0 [v, u]) = 3 :: (textL v ++ textL u) := by
  rw [textL_eq]
  show digs 3 ++ (if (3 : Int) = 5 ∨ (3 : Int) = 6 then digs 0 else []) ++ [v, u].flatMap textL = _
  rw [if_neg (by omega), digs_one (by omega)]
  simp
theorem textL_4 (v u : L) : textL (.mk 4 0 [v, u]) = 4 :: (textL v ++ textL u) := by
  rw [textL_eq]
  show digs 4 ++ (if (4 : Int) = 5 ∨ (4 : Int) = 6 then digs 0 else []) ++ [v, u].flatMap textL = _
  rw [if_neg (by omega), digs_one (by omega)]
  simp
theorem getS_told {s : List Nat} {a : Nat} (hb : Byt s) (h : (getS s a).2.2 = 0) : a < (getS s a).2.1 ∧ (getS s a).2.1 ≤ s.length ∧ s.drop a = digs (getS s a).1 ++ s.drop (getS s a).2.1 := by
  by_cases h0 : (a : Int) < 0 ∨ (a : Int) > s.length
  · have hg : getS s a = (0, 0, 1) := by unfold getS; rw [if_pos h0]
    rw [hg] at h
    cases h
  · simp only [getS, if_neg h0, Int.toNat_natCast] at h ⊢
    generalize hr : getR (s.drop a) 0 0 = r at h ⊢
    obtain ⟨n, c, e⟩ := r
    simp only at h
    subst h
    obtain ⟨v, q1, q2, q3, q4, q5, q6⟩ := getR_ok _ _ _ _ _ (fun x hx => hb x (List.mem_of_mem_drop hx)) hr
    simp only [if_true]
    rw [Nat.pow_zero, Nat.mul_one, Nat.zero_add] at q1
    subst q1
    rw [List.length_drop] at q3
    refine ⟨by omega, by omega, ?_⟩
    rw [Nat.sub_zero] at q4
    rw [← q4, ← List.drop_drop, List.take_append_drop]
theorem RR.bind_bad {r : RR} {f : L → Nat → Nat → RR} {e : Nat} (h : r.bind f = .bad e) : r = .bad e ∨ ∃ v a n, r = .ok v a n ∧ f v a n = .bad e := by
  cases r with
  | bad e' => exact .inl h
  | ok v' a' n' => exact .inr ⟨v', a', n', rfl, h⟩
theorem rd_bad (s : List Nat) : ∀ (d a n e : Nat), rdL s d a n = .bad e → e ≠ 0
  | 0, a, n, e, h => by simp [rdL] at h; omega
  | d + 1, a, n, e, h => by
    unfold rdL at h
    split at h
    · cases h; omega
    split at h
    · rename_i h1; cases h; exact h1
    split at h
    · cases h
    split at h
    · split at h
      · rename_i h1; cases h; exact h1
      generalize (if (getS s a).1 = 5 then 5 else 10) = q at h
      split at h
      · cases h; omega
      · cases h
    split at h
    · rcases RR.bind_bad h with h | ⟨v, a2, n2, h1, h2⟩
      · exact rd_bad s d _ _ e h
      · cases h2
    split at h
    · rcases RR.bind_bad h with h | ⟨v, a2, n2, h1, h2⟩
      · exact rd_bad s d _ _ e h
      · rcases RR.bind_bad h2 with h | ⟨v, a2, n2, h1, h2⟩
        · exact rd_bad s d _ _ e h
        · cases h2
    · cases h; omega
theorem rightS_1 (k : Int) (n : Nat) (d : Nat) (h : (k = 1 ∧ n = 0) ∨ (k = 5 ∧ n < 5) ∨ (k = 6 ∧ n < 10)) : rightS (.mk k n []) 5 10 ((d + 1 : Nat) : Int) = true := by
  rw [rightS_eq]
  show (decide (0 < ((d + 1 : Nat) : Int)) && decide (((0 : Nat) : Int) = kidsS k) && namedS (.mk k n []) 5 10 && true) = true
  have : namedS (.mk k n []) 5 10 = true := by
    unfold namedS
    show (if k = 5 then decide (0 ≤ (n : Int)) && decide ((n : Int) < 5) else if k = 6 then decide (0 ≤ (n : Int)) && decide ((n : Int) < 10) else decide ((n : Int) = 0)) = true
    rcases h with ⟨rfl, rfl⟩ | ⟨rfl, h⟩ | ⟨rfl, h⟩ <;> simp <;> omega
  rw [this]
  rcases h with ⟨rfl, _⟩ | ⟨rfl, _⟩ | ⟨rfl, _⟩ <;> simp [kidsS] <;> omega
theorem rightS_2 (k : Int) (ks : List L) (d : Nat) (h : (k = 2 ∧ ks.length = 1) ∨ ((k = 3 ∨ k = 4) ∧ ks.length = 2)) (hk : ∀ x ∈ ks, rightS x 5 10 d = true) : rightS (.mk k 0 ks) 5 10 ((d + 1 : Nat) : Int) = true := by
  rw [rightS_eq]
  have hany : (ks.any fun k => !(rightS k 5 10 (((d + 1 : Nat) : Int) - 1))) = false := by
    rw [List.any_eq_false]
    intro x hx
    rw [show ((d + 1 : Nat) : Int) - 1 = (d : Nat) by omega, hk x hx]
    simp
  show (decide (0 < ((d + 1 : Nat) : Int)) && decide ((ks.length : Int) = kidsS k) && namedS (.mk k 0 ks) 5 10 && !(ks.any fun k => !(rightS k 5 10 (((d + 1 : Nat) : Int) - 1)))) = true
  rw [hany]
  have : namedS (.mk k 0 ks) 5 10 = true := by
    unfold namedS
    show (if k = 5 then decide (0 ≤ (0 : Int)) && decide ((0 : Int) < 5) else if k = 6 then decide (0 ≤ (0 : Int)) && decide ((0 : Int) < 10) else decide ((0 : Int) = 0)) = true
    rcases h with ⟨rfl, _⟩ | ⟨rfl | rfl, _⟩ <;> simp
  rw [this]
  rcases h with ⟨rfl, h⟩ | ⟨rfl | rfl, h⟩ <;> simp [kidsS, h] <;> omega
/-- What is read is right, and stands there as it is written. -/
theorem rd_read (s : List Nat) (hb : Byt s) : ∀ (d a n : Nat) (v : L) (a' n' : Nat), a ≤ s.length → rdL s d a n = .ok v a' n' → rightS v 5 10 d = true ∧ a < a' ∧ a' ≤ s.length ∧ s.drop a = textL v ++ s.drop a' ∧ n' = n + szL v ∧ n' ≤ 100
  | 0, a, n, v, a', n', _, h => by simp [rdL] at h
  | d + 1, a, n, v, a', n', ha, h => by
    unfold rdL at h
    split at h
    · cases h
    rename_i hn
    split at h
    · cases h
    rename_i he
    obtain ⟨g1, g2, g3⟩ := getS_told hb (by omega : (getS s a).2.2 = 0)
    generalize hr : getS s a = r at h g1 g2 g3
    obtain ⟨k, a1, e1⟩ := r
    simp only at h g1 g2 g3
    split at h
    · rename_i hk
      subst hk
      cases h
      rw [digs_one (by omega)] at g3
      refine ⟨rightS_1 1 0 d (.inl ⟨rfl, rfl⟩), g1, g2, by rw [textL_1, g3], by simp [szL, szLs], by omega⟩
    split at h
    · rename_i hk
      split at h
      · cases h
      rename_i he2
      obtain ⟨q, hq⟩ : ∃ q, q = (if k = 5 then 5 else 10) := ⟨_, rfl⟩
      rw [← hq] at h
      split at h
      · cases h
      rename_i hm
      rw [hq] at hm
      obtain ⟨k1, k2, k3⟩ := getS_told hb (by omega : (getS s a1).2.2 = 0)
      generalize hr2 : getS s a1 = r2 at h k1 k2 k3 hm
      obtain ⟨m, a2, e2⟩ := r2
      simp only at h k1 k2 k3 hm
      cases h
      rcases hk with rfl | rfl
      · rw [if_pos rfl] at hm
        rw [digs_one (by omega)] at g3 k3
        refine ⟨rightS_1 5 m d (.inr (.inl ⟨rfl, by omega⟩)), by omega, k2, ?_, by simp [szL, szLs], by omega⟩
        rw [show ((5 : Nat) : Int) = 5 from rfl, textL_5 m (by omega), g3, k3]
        rfl
      · rw [if_neg (by omega)] at hm
        rw [digs_one (by omega)] at g3 k3
        refine ⟨rightS_1 6 m d (.inr (.inr ⟨rfl, by omega⟩)), by omega, k2, ?_, by simp [szL, szLs], by omega⟩
        rw [show ((6 : Nat) : Int) = 6 from rfl, textL_6 m (by omega), g3, k3]
        rfl
    split at h
    · rename_i hk
      subst hk
      obtain ⟨v1, b1, m1, h1, h2⟩ := RR.bind_ok h
      cases h2
      obtain ⟨i1, i2, i3, i4, i5, i6⟩ := rd_read s hb d _ _ _ _ _ (by omega) h1
      rw [digs_one (by omega)] at g3
      refine ⟨rightS_2 2 [v1] d (.inl ⟨rfl, rfl⟩) (by simpa using i1), by omega, i3, ?_, by simp [szL, szLs]; omega, i6⟩
      rw [textL_2, g3, i4]
      rfl
    split at h
    · rename_i hk
      obtain ⟨v1, b1, m1, h1, h2⟩ := RR.bind_ok h
      obtain ⟨v2, b2, m2, h3, h4⟩ := RR.bind_ok h2
      cases h4
      obtain ⟨i1, i2, i3, i4, i5, i6⟩ := rd_read s hb d _ _ _ _ _ (by omega) h1
      obtain ⟨j1, j2, j3, j4, j5, j6⟩ := rd_read s hb d _ _ _ _ _ i3 h3
      rcases hk with rfl | rfl
      · rw [digs_one (by omega)] at g3
        refine ⟨rightS_2 3 [v1, v2] d (.inr ⟨.inl rfl, rfl⟩) (by simp [i1, j1]), by omega, j3, ?_, by simp [szL, szLs]; omega, j6⟩
        rw [show ((3 : Nat) : Int) = 3 from rfl, textL_3, g3, i4, j4]
        simp
      · rw [digs_one (by omega)] at g3
        refine ⟨rightS_2 4 [v1, v2] d (.inr ⟨.inr rfl, rfl⟩) (by simp [i1, j1]), by omega, j3, ?_, by simp [szL, szLs]; omega, j6⟩
        rw [show ((4 : Nat) : Int) = 4 from rfl, textL_4, g3, i4, j4]
        simp
    · cases h
end Pi


set_option linter.unusedSimpArgs false
set_option linter.unusedVariables false
namespace Pi
/-- A number below a limit: the number, the place behind it, the error. -/
def numT (s : List Nat) (a most : Nat) : Nat × Nat × Nat :=
  if (getS s a).2.2 ≠ 0 then (0, a, (getS s a).2.2) else if most ≤ (getS s a).1 then (0, a, 20) else ((getS s a).1, (getS s a).2.1, 0)
inductive LR where
  | ok (ls : List L) (at' : Nat)
  | bad (e : Nat)
def LR.pre (vs : List L) : LR → LR
  | .ok ls a => .ok (vs ++ ls) a
  | .bad e => .bad e
/-- A level, wherever. -/
def lvR (s : List Nat) (a : Nat) : RR := if s.length < a then .bad 1 else rdL s 12 a 0
/-- So many levels. -/
def rdLs (s : List Nat) : Nat → Nat → LR
  | 0, a => .ok [] a
  | m + 1, a => match lvR s a with
    | .bad e => .bad e
    | .ok v a' _ => (rdLs s m a').pre [v]
theorem rdLs_succ (s : List Nat) (m a : Nat) : rdLs s (m + 1) a = match lvR s a with | .bad e => .bad e | .ok v a' _ => (rdLs s m a').pre [v] := rfl
theorem getLV_lvR (s : List Nat) (a : Nat) : getLV s a = rrV (lvR s a) := by
  unfold getLV lvR
  by_cases h : s.length < a
  · rw [if_pos h, if_pos (by omega)]
  · rw [if_neg h, if_neg (by omega), Int.toNat_natCast]
def rcT (s : List Nat) (a n e : Int) : Option PObj := some (.cells [.s (bs s), .i .i64 a, .i .i64 n, .i .i64 e] false)
theorem tcode_reader_fail.w {m : Sto} {x p : Nat} {K : CR → Sto → Nat → Prop} (s : List Nat) (a n e e' : Int) (hm : m p = rcT s a n e)
    (hK : ∀ m' x', x ≤ x' → (∀ j, j ≠ p → m' j = m j) → m' p = rcT s a n (if e = 0 then e' else e) → K (.ret (.tu [])) m' x') :
    w ctx (envOf [.p p 0, .i .i64 e']) m x [] none none (RetG ctx tcode_reader_fail.c.rs K) tcode_reader_fail.c.code := by
  unfold rcT at hm hK
  by_cases h : e = 0
  · subst h
    rw [if_pos rfl] at hK
    simp +contextual (disch := omega) [Nat.add_assoc, Int.add_assoc, if_pos, if_neg, -Int.not_lt, -Int.not_le, -Nat.not_lt, -Nat.not_le, -List.length_flatMap, tcode_reader_fail.c, hm]
    exact hK _ _ (by omega) (fun j hj => Sto.sne _ _ _ _ hj) (Sto.seq _ _ _)
  · rw [if_neg h] at hK
    simp +contextual (disch := omega) [Nat.add_assoc, Int.add_assoc, if_pos, if_neg, -Int.not_lt, -Int.not_le, -Nat.not_lt, -Nat.not_le, -List.length_flatMap, tcode_reader_fail.c, hm, h]
    exact hK _ _ (by omega) (fun j hj => rfl) hm
theorem tcode_reader_number.w {m : Sto} {x p : Nat} {K : CR → Sto → Nat → Prop} (s : List Nat) (hl : Byt s) (hn : s.length ≤ 10000) (a n most : Nat) (hm : m p = rcT s a n 0)
    (hK : ∀ m' x', x ≤ x' → (∀ j, j ≠ p → m' j = m j) → m' p = rcT s (numT s a most).2.1 n (numT s a most).2.2 → K (.ret (.i .i64 (numT s a most).1)) m' x') :
    w ctx (envOf [.p p 0, .i .i64 most]) m x [] none none (RetG ctx tcode_reader_number.c.rs K) tcode_reader_number.c.code := by
  have hG := octet_Get.a s a hl hn
  have hf : ctx.frz tcode_reader_fail.n = false := rfl
  unfold numT at hK
  generalize getS s a = r at *
  obtain ⟨r1, r2, r3⟩ := r
  unfold t3 at hG
  simp only at hG hK
  have hm' := hm
  unfold rcT at hm'
  by_cases h3 : r3 = 0
  · subst h3
    rw [if_neg (by omega)] at hK
    by_cases h4 : most ≤ r1
    · rw [if_pos h4] at hK
      have h4' : (most : Int) ≤ r1 := by omega
      simp +contextual (disch := omega) [Nat.add_assoc, Int.add_assoc, if_pos, if_neg, -Int.not_lt, -Int.not_le, -Nat.not_lt, -Nat.not_le, -List.length_flatMap, tcode_reader_number.c, hm', ansK hG, h4']
      rw [CallX_op (by rfl)]
      refine openg_w rfl rfl (.inl rfl) ?_
      rw [hf]
      refine tcode_reader_fail.w s a n 0 20 hm ?_
      intro m2 x2 g1 g2 g3
      simp +contextual (disch := omega) [Nat.add_assoc, Int.add_assoc, if_pos, if_neg, -Int.not_lt, -Int.not_le, -Nat.not_lt, -Nat.not_le, -List.length_flatMap]
      exact hK _ _ (by omega) g2 g3
    · rw [if_neg h4] at hK
      have h4' : ¬ (most : Int) ≤ r1 := by omega
      simp +contextual (disch := omega) [Nat.add_assoc, Int.add_assoc, if_pos, if_neg, -Int.not_lt, -Int.not_le, -Nat.not_lt, -Nat.not_le, -List.length_flatMap, tcode_reader_number.c, hm', ansK hG, h4']
      exact hK _ _ (by omega) (fun j hj => Sto.sne _ _ _ _ hj) (Sto.seq _ _ _)
  · rw [if_pos h3] at hK
    simp +contextual (disch := omega) [Nat.add_assoc, Int.add_assoc, if_pos, if_neg, -Int.not_lt, -Int.not_le, -Nat.not_lt, -Nat.not_le, -List.length_flatMap, tcode_reader_number.c, hm', ansK hG, h3]
    rw [CallX_op (by rfl)]
    refine openg_w rfl rfl (.inl rfl) ?_
    rw [hf]
    refine tcode_reader_fail.w s a n 0 r3 hm ?_
    intro m2 x2 g1 g2 g3
    simp +contextual (disch := omega) [Nat.add_assoc, Int.add_assoc, if_pos, if_neg, -Int.not_lt, -Int.not_le, -Nat.not_lt, -Nat.not_le, -List.length_flatMap]
    exact hK _ _ (by omega) g2 g3
theorem tcode_reader_number.e {m : Sto} {x p : Nat} {K : CR → Sto → Nat → Prop} (s : List Nat) (a n e : Int) (most : Int) (he : e ≠ 0) (hm : m p = rcT s a n e)
    (hK : ∀ x', x ≤ x' → K (.ret (.i .i64 0)) m x') :
    Pi.w ctx (envOf [.p p 0, .i .i64 most]) m x [] none none (RetG ctx tcode_reader_number.c.rs K) tcode_reader_number.c.code := by
  unfold rcT at hm
  simp +contextual (disch := omega) [Nat.add_assoc, Int.add_assoc, if_pos, if_neg, -Int.not_lt, -Int.not_le, -Nat.not_lt, -Nat.not_le, -List.length_flatMap, tcode_reader_number.c, hm, he]
  exact hK _ (by omega)
/-- What a reading of levels comes to. -/
def LPost : LR → List L → Int → Int → Prop
  | .ok ls a, vs, a', e' => vs = ls ∧ a' = a ∧ e' = 0
  | .bad e, _, _, e' => e' = e ∧ e ≠ 0
theorem LR.pre_pre (a b : List L) (r : LR) : (r.pre b).pre a = r.pre (a ++ b) := by
  cases r with
  | ok ls x => simp [LR.pre]
  | bad e => rfl
theorem LR.pre_nil (r : LR) : r.pre [] = r := by
  cases r with
  | ok ls x => simp [LR.pre]
  | bad e => rfl
theorem lvR_bad {s : List Nat} {a e : Nat} (hr : lvR s a = .bad e) : e ≠ 0 := by
  unfold lvR at hr
  split at hr
  · cases hr; omega
  · exact rd_bad _ _ _ _ _ hr
theorem InnM.apG {α : Type} {f : α → List V} {k : Nat} [hc0 : Cel f k] {p x0 slot lo x d : Nat} {m m' : Sto} {B : V} {vs : List α} {cs : List V} {v : V} {ws : Ws} (hI : InnM p x0 m') (hB : Bn m B f k vs lo x d) (hm : ∀ j, lo ≤ j → j < x → m' j = m j) (hx : x0 ≤ lo) (hs : x0 ≤ slot) (hc : innL (orNew [p] x0) cs = true)
    (h : apV m' k B cs 1 slot = some (v, ws)) : InnM p x0 (m'.app ws) ∧ v.inn (orNew [p] x0) = true := by
  have hin : (orNew [p] x0) slot = true := by simp [orNew]; omega
  rcases hB with ⟨rfl, rfl⟩ | ⟨b, cc, rfl, h2, ⟨h3, h4⟩, h5, h6⟩
  · rw [apV_ns, if_neg (by omega), if_pos (by decide)] at h
    simp only [Option.some.injEq, Prod.mk.injEq] at h
    obtain ⟨rfl, rfl⟩ := h
    refine ⟨?_, by simpa [V.inn] using hin⟩
    rw [sapp_cons, sapp_nil]
    exact hI.set (fun _ => by simpa [innO] using hc)
  · have hb := hI b (by omega)
    rw [hm b h5 h6, h2] at hb
    simp only [innO] at hb
    rw [apV_ms, if_neg (by omega), hm b h5 h6, h2, apO_cells] at h
    split at h
    · simp only [Option.some.injEq, Prod.mk.injEq] at h
      obtain ⟨rfl, rfl⟩ := h
      refine ⟨?_, by simpa [V.inn] using hin⟩
      rw [sapp_cons, sapp_cons, sapp_nil, List.take_of_length_le (by rw [h3]; exact Nat.le_refl _)]
      exact (hI.set (fun _ => rfl)).set (fun _ => by simpa [innO] using innL_app hb hc)
    · cases h
theorem innL_cL (S : Nat → Bool) (v : L) : innL S (cL v) = true := by rw [cL_at]; rfl
theorem InnM.of {p x : Nat} {m m' : Sto} (h : InnM p x m) (hp : p < x) (hm : ∀ j, j ≠ p → m' j = m j) : InnM p x m' := fun j hj => by rw [hm j (by omega)]; exact h j hj
set_option maxHeartbeats 1000000 in
theorem tcode_reader_levels.w {m : Sto} {x p x0 : Nat} {K : CR → Sto → Nat → Prop} (s : List Nat) (hl : Byt s) (hn : s.length ≤ 10000) (a n many : Nat) (hmany : many ≤ 5) (hp : p < x0) (hx0 : x0 ≤ x) (hm : m p = rcT s a n 0) (hI : InnM p x0 m)
    (hK : ∀ m' x' B vs (a' e' : Int), LPost (rdLs s many a) vs a' e' → x ≤ x' → (∀ j, j < x → j ≠ p → m' j = m j) → m' p = rcT s a' n e' → Bn m' B cL 3 vs x x' 0 → InnM p x0 m' → B.inn (orNew [p] x0) = true → K (.ret B) m' x') :
    w ctx (envOf [.p p 0, .i .i64 many]) m x [] none none (RetG ctx tcode_reader_levels.c.rs K) tcode_reader_levels.c.code := by
  have hf : ctx.frz tcode_reader_fail.n = false := rfl
  simp +contextual (disch := omega) [Nat.add_assoc, Int.add_assoc, if_pos, if_neg, -Int.not_lt, -Int.not_le, -Nat.not_lt, -Nat.not_le, -List.length_flatMap, tcode_reader_levels.c]
  refine for_w (fun i e' m' x' => ∃ B vs ai, e' 0 = .p p 0 ∧ e' 4 = B ∧ e' 8 = .i .i64 many ∧ e' 9 = .i .i64 i ∧ x ≤ x' ∧ Bn m' B cL 3 vs x x' 0 ∧ vs.length = i ∧ m' p = rcT s (ai : Nat) n 0 ∧ rdLs s many a = (rdLs s (many - i) ai).pre vs ∧ (∀ j, j < x → j ≠ p → m' j = m j) ∧ InnM p x0 m' ∧ B.inn (orNew [p] x0) = true) many ?_ ?_ ?_
  · exact ⟨.ns, [], a, by simp +contextual (disch := omega) [Nat.add_assoc, Int.add_assoc, if_pos, if_neg, -Int.not_lt, -Int.not_le, -Nat.not_lt, -Nat.not_le, -List.length_flatMap], by simp +contextual (disch := omega) [Nat.add_assoc, Int.add_assoc, if_pos, if_neg, -Int.not_lt, -Int.not_le, -Nat.not_lt, -Nat.not_le, -List.length_flatMap], by simp +contextual (disch := omega) [Nat.add_assoc, Int.add_assoc, if_pos, if_neg, -Int.not_lt, -Int.not_le, -Nat.not_lt, -Nat.not_le, -List.length_flatMap], by simp +contextual (disch := omega) [Nat.add_assoc, Int.add_assoc, if_pos, if_neg, -Int.not_lt, -Int.not_le, -Nat.not_lt, -Nat.not_le, -List.length_flatMap], by omega, Bn.nil, rfl, hm, by rw [LR.pre_nil]; rfl, fun _ _ _ => rfl, hI, rfl⟩
  · rintro i e' m' x' hi ⟨B, vs, ai, g1, g2, g3, g4, g5, g6, g7, g8, g9, g10, g11, g12⟩
    have hG := lcode_Get.a s ai hl hn
    rw [getLV_lvR] at hG
    rw [show many - i = (many - (i + 1)) + 1 by omega] at g9
    rw [rdLs_succ] at g9
    have g8' := g8
    unfold rcT at g8
    cases hr : lvR s ai with
    | bad e =>
      rw [hr] at hG g9
      unfold rrV at hG
      have he : e ≠ 0 := lvR_bad hr
      simp +contextual (disch := omega) [Nat.add_assoc, Int.add_assoc, if_pos, if_neg, -Int.not_lt, -Int.not_le, -Nat.not_lt, -Nat.not_le, -List.length_flatMap, tcode_reader_levels.b1, g1, g2, g3, g4, g8, hi, ansK hG, he]
      rw [CallX_op (by rfl)]
      refine openg_w rfl rfl (.inl rfl) ?_
      rw [hf]
      generalize hM : Sto.set (Sto.set m' (x' + 13) _) _ _ = M
      have hMj : ∀ j, j < x' → M j = m' j := fun j hj => by rw [← hM, Sto.sne _ _ _ _ (by omega), Sto.sne _ _ _ _ (by omega)]
      have hMI : InnM p x0 M := by rw [← hM]; exact (g11.set (fun _ => rfl)).set (fun _ => by simpa [innO] using innL_cL _ (.mk 0 0 []))
      refine tcode_reader_fail.w s ai n 0 e ((hMj p (by omega)).trans g8') ?_
      intro m2 x2 k1 k2 k3
      simp +contextual (disch := omega) [Nat.add_assoc, Int.add_assoc, if_pos, if_neg, -Int.not_lt, -Int.not_le, -Nat.not_lt, -Nat.not_le, -List.length_flatMap, g2]
      refine hK _ _ B vs ai e ?_ (by omega) (fun j h1 h2 => ?_) k3 (g6.up (by omega) (fun j h1 h2 => ?_)) (hMI.of hp k2) g12
      · rw [g9]; exact ⟨rfl, he⟩
      · rw [k2 j h2, hMj j (by omega), g10 j h1 h2]
      · rw [k2 j (by omega), hMj j h2]
    | ok v a2 n2 =>
      rw [hr] at hG g9
      unfold rrV at hG
      simp +contextual (disch := omega) [Nat.add_assoc, Int.add_assoc, if_pos, if_neg, -Int.not_lt, -Int.not_le, -Nat.not_lt, -Nat.not_le, -List.length_flatMap, tcode_reader_levels.b1, g1, g2, g3, g4, g8, hi, ansK hG]
      generalize hM2 : Sto.set _ (x' + 26) _ = M2
      have hj2 : ∀ j, j < x' → j ≠ p → M2 j = m' j := fun j h1 h2 => by rw [← hM2, Sto.sne _ _ _ _ (by omega), Sto.sne _ _ _ _ (by omega), Sto.sne _ _ _ _ (by omega), Sto.sne _ _ _ _ (by omega)]
      have hp2 : M2 p = rcT s a2 n 0 := by rw [← hM2, Sto.sne _ _ _ _ (by omega), Sto.seq]; rfl
      have hI2 : InnM p x0 M2 := by
        rw [← hM2]
        exact (((g11.set (fun _ => rfl)).set (fun _ => by simpa [innO] using innL_cL _ v)).set (fun _ => rfl)).set (fun _ => by simpa [innO] using innL_cL _ v)
      refine opK_with (fun u ws => InnM p x0 (M2.app ws) ∧ u.inn (orNew [p] x0) = true) (fun u ws h => InnM.apG hI2 g6 (fun j h1 h2 => hj2 j h2 (by omega)) (by omega) (by omega) (innL_cL _ v) h) ?_
      refine g6.ap v (fun j h1 h2 => hj2 j h2 (by omega)) (by omega) (by omega) (FzAt.self (fun D => cL_fz v D)) (cL_len v) rfl (by omega) ?_
      intro B' ws2 M3 z0 z1 z2 z3 z4
      rw [z0] at z4
      simp +contextual (disch := omega) [Nat.add_assoc, Int.add_assoc, if_pos, if_neg, -Int.not_lt, -Int.not_le, -Nat.not_lt, -Nat.not_le, -List.length_flatMap, z0, g1, g2, g3, g4]
      refine ⟨by omega, vs ++ [v], z1.to rfl (by omega), by simp; omega, a2, ?_, ?_, fun j h1 h2 => ?_, z4.1, z4.2⟩
      · rw [z2 p (by omega), hp2]
      · rw [g9, LR.pre_pre]
      · rw [z2 j h1, hj2 j (by omega) h2, g10 j h1 h2]
  · rintro e' m' x' ⟨B, vs, ai, g1, g2, g3, g4, g5, g6, g7, g8, g9, g10, g11, g12⟩
    rw [Nat.sub_self] at g9
    simp +contextual (disch := omega) [Nat.add_assoc, Int.add_assoc, if_pos, if_neg, -Int.not_lt, -Int.not_le, -Nat.not_lt, -Nat.not_le, -List.length_flatMap, tcode_reader_levels.b1, g1, g2, g3, g4]
    refine hK _ _ _ vs ai 0 ?_ (by omega) g10 g8 (g6.up (by omega) (fun j h1 h2 => rfl)) g11 g12
    rw [g9]
    simp [rdLs, LR.pre, LPost]
end Pi


set_option linter.unusedSimpArgs false
set_option linter.unusedVariables false
namespace Pi
inductive TR where
  | ok (v : Tm) (at' many : Nat)
  | bad (e : Nat)
inductive KR where
  | ok (ks : List Tm) (at' many : Nat)
  | bad (e : Nat)
def KR.pre (vs : List Tm) : KR → KR
  | .ok ks a n => .ok (vs ++ ks) a n
  | .bad e => .bad e
/-- Kids, each below so many binders. -/
def rdKs (f : Nat → Nat → Nat → TR) : List Nat → Nat → Nat → KR
  | [], a, n => .ok [] a n
  | b :: bs, a, n => match f b a n with
    | .bad e => .bad e
    | .ok v a' n' => (rdKs f bs a' n').pre [v]
theorem rdKs_cons (f : Nat → Nat → Nat → TR) (b : Nat) (bs : List Nat) (a n : Nat) : rdKs f (b :: bs) a n = match f b a n with | .bad e => .bad e | .ok v a' n' => (rdKs f bs a' n').pre [v] := rfl
theorem KR.pre_pre (a b : List Tm) (r : KR) : (r.pre b).pre a = r.pre (a ++ b) := by
  cases r with
  | ok ls x n => simp [KR.pre]
  | bad e => rfl
theorem KR.pre_nil (r : KR) : r.pre [] = r := by
  cases r with
  | ok ls x n => simp [KR.pre]
  | bad e => rfl
def KR.tm (k : Nat) : KR → TR
  | .ok ks a n => .ok (.mk k 0 [] ks) a n
  | .bad e => .bad e
def LR.tm (k N n : Nat) : LR → TR
  | .ok ls a => .ok (.mk k N ls []) a n
  | .bad e => .bad e
/-- How many binders more a kind's kids are below. -/
def kidsB (k b : Nat) : List Nat := if k = 4 then [b, b] else if k = 5 ∨ k = 6 then [b, b + 1] else [b, b, b + 1]
/-- What a kind has. -/
def partT (s : List Nat) (f : Nat → Nat → Nat → TR) (k b a n : Nat) : TR :=
  if k = 1 then (if (numT s a (1000 + b)).2.2 ≠ 0 then .bad (numT s a (1000 + b)).2.2 else .ok (.mk 1 (numT s a (1000 + b)).1 [] []) (numT s a (1000 + b)).2.1 n)
  else if k = 2 then (rdLs s 1 a).tm 2 0 n
  else if k = 3 then
    (if (numT s a 20).2.2 ≠ 0 then .bad (numT s a 20).2.2
     else if (numT s (numT s a 20).2.1 6).2.2 ≠ 0 then .bad (numT s (numT s a 20).2.1 6).2.2
     else (rdLs s (numT s (numT s a 20).2.1 6).1 (numT s (numT s a 20).2.1 6).2.1).tm 3 (numT s a 20).1 n)
  else if k = 4 ∨ k = 5 ∨ k = 6 ∨ k = 7 then (rdKs f (kidsB k b) a n).tm k
  else .bad 20
/-- A term that stands at a place. -/
def rdT (s : List Nat) : Nat → Nat → Nat → Nat → TR
  | 0, _, _, _ => .bad 2
  | d + 1, b, a, n => if 600 ≤ n then .bad 2 else
    if (numT s a 1099511627777).2.2 ≠ 0 then .bad (numT s a 1099511627777).2.2
    else partT s (rdT s d) (numT s a 1099511627777).1 b (numT s a 1099511627777).2.1 (n + 1)
/-- What a reading comes to. -/
def TPost : TR → Tm → Int → Int → Int → Prop
  | .ok v a n, v', a', n', e' => v' = v ∧ a' = a ∧ n' = n ∧ e' = 0
  | .bad e, _, _, _, e' => e' = e ∧ e ≠ 0
/-- The same, but for the kind. -/
def TPost0 : TR → Tm → Int → Int → Int → Prop
  | .ok v a n, v', a', n', e' => v' = .mk 0 v.n v.lvls v.kids ∧ a' = a ∧ n' = n ∧ e' = 0
  | .bad e, v', _, _, e' => v'.kind = 0 ∧ e' = e ∧ e ≠ 0
/-- What stands behind a reading. -/
def TK (P : Tm → Int → Int → Int → Prop) (s : List Nat) (p x0 x : Nat) (m : Sto) (d : Nat) (K : CR → Sto → Nat → Prop) : Prop :=
  ∀ cs m' x' v (a n e : Int), P v a n e → x ≤ x' → (∀ j, j < x → j ≠ p → m' j = m j) → m' p = rcT s a n e → InnM p x0 m' → cs.length = 4 → innL (orNew [p] x0) cs = true → FzAt m' x x' d cs (cT v) → K (.ret (.ag cs)) m' x'
theorem numT_bad {s : List Nat} {a most : Nat} : (numT s a most).2.2 ≠ 0 → (numT s a most).1 = 0 := by
  unfold numT
  split
  · intro _; rfl
  · split
    · intro _; rfl
    · intro h; exact absurd rfl h
theorem numT_lt {s : List Nat} {a most : Nat} (h : (numT s a most).2.2 = 0) : (numT s a most).1 < most := by
  unfold numT at h ⊢
  split at h
  · rename_i h1; exact absurd h h1
  · rename_i h1
    rw [if_neg h1] at ⊢
    split at h
    · simp at h
    · rename_i h2
      rw [if_neg h2]
      simp
      omega
theorem cT_of (k n : Int) (ls : List L) (ks : List Tm) : cT (.mk k n ls ks) = [.i .i64 k, .i .i64 n, sV cL ls, sV cT ks] := by rw [cT_at]; rfl
theorem FzT {m : Sto} {lo x d : Nat} {k n : Int} {ls : List L} {ks : List Tm} {B C : V} (hB : Bn m B cL 3 ls lo x 0) (hC : FzAt m lo x d [C] [sV cT ks]) (hd : 1 ≤ d) : FzAt m lo x d [.i .i64 k, .i .i64 n, B, C] (cT (.mk k n ls ks)) := by
  rw [cT_of]
  have z := (FzAt.fr (m := m) (lo := lo) (x := x) (k := d) (cs := [.i .i64 k, .i .i64 n]) (by simp)).app ((hB.at.up (Nat.le_refl x) hd (fun _ _ _ => rfl)).app hC)
  simpa using z
theorem FzN {m : Sto} {lo x d : Nat} : FzAt m lo x d [.ns] [sV cT []] := fun m2 _ dd _ => ⟨[], by simp [sV]⟩
theorem tcode_reader_levels.z {m : Sto} {x p : Nat} {K : CR → Sto → Nat → Prop} (hK : ∀ x', x ≤ x' → K (.ret .ns) m x') :
    Pi.w ctx (envOf [.p p 0, .i .i64 0]) m x [] none none (RetG ctx tcode_reader_levels.c.rs K) tcode_reader_levels.c.code := by
  simp +contextual (disch := omega) [Nat.add_assoc, Int.add_assoc, if_pos, if_neg, -Int.not_lt, -Int.not_le, -Nat.not_lt, -Nat.not_le, -List.length_flatMap, tcode_reader_levels.c]
  refine un_w ?_
  simp +contextual (disch := omega) [Nat.add_assoc, Int.add_assoc, if_pos, if_neg, -Int.not_lt, -Int.not_le, -Nat.not_lt, -Nat.not_le, -List.length_flatMap, tcode_reader_levels.b1]
  exact hK _ (by omega)
theorem tcode_reader_variable.w {m : Sto} {x p x0 : Nat} {K : CR → Sto → Nat → Prop} (s : List Nat) (hl : Byt s) (hn : s.length ≤ 10000) (f : Nat → Nat → Nat → TR) (wi : Int) (b a n d : Nat) (hb : b ≤ 1000) (hp : p < x0) (hx0 : x0 ≤ x) (hm : m p = rcT s a n 0) (hI : InnM p x0 m)
    (hK : TK (TPost0 (partT s f 1 b a n)) s p x0 x m (d + 1) K) :
    w ctx (envOf [.p p 0, .ag [.i .i64 wi, .i .i64 b]]) m x [] none none (RetG ctx tcode_reader_variable.c.rs K) tcode_reader_variable.c.code := by
  have hf : ctx.frz tcode_reader_number.n = false := rfl
  simp +contextual (disch := omega) [Nat.add_assoc, Int.add_assoc, if_pos, if_neg, -Int.not_lt, -Int.not_le, -Nat.not_lt, -Nat.not_le, -List.length_flatMap, tcode_reader_variable.c]
  rw [CallX_op (by rfl)]
  refine openg_w rfl rfl (.inl rfl) ?_
  rw [hf]
  generalize hM : Sto.set _ (x + 1) _ = M
  have hMj : ∀ j, j < x → M j = m j := fun j hj => by rw [← hM, Sto.sne _ _ _ _ (by omega), Sto.sne _ _ _ _ (by omega)]
  have hM1 : M (x + 1) = some (.cells [.i .i64 0, .i .i64 0, .ns, .ns] false) := by rw [← hM, Sto.seq]
  have hMI : InnM p x0 M := by rw [← hM]; exact (hI.set (fun _ => rfl)).set (fun _ => rfl)
  refine tcode_reader_number.w s hl hn a n (1000 + b) ((hMj p (by omega)).trans hm) ?_
  intro m2 x2 k1 k2 k3
  have t1 := (k2 (x + 1) (by omega)).trans hM1
  simp +contextual (disch := omega) [Nat.add_assoc, Int.add_assoc, if_pos, if_neg, -Int.not_lt, -Int.not_le, -Nat.not_lt, -Nat.not_le, -List.length_flatMap, t1]
  refine hK _ _ _ (.mk 0 (numT s a (1000 + b)).1 [] []) (numT s a (1000 + b)).2.1 n (numT s a (1000 + b)).2.2 ?_ (by omega) (fun j h1 h2 => ?_) ?_ ?_ rfl rfl ?_
  · unfold partT
    rw [if_pos rfl]
    split
    · rename_i h; exact ⟨rfl, rfl, h⟩
    · rename_i h; exact ⟨rfl, rfl, rfl, by omega⟩
  · rw [Sto.sne _ _ _ _ (by omega), Sto.sne _ _ _ _ (by omega), k2 j h2, hMj j h1]
  · rw [Sto.sne _ _ _ _ (by omega), Sto.sne _ _ _ _ (by omega), k3]
  · exact (((hMI.of hp k2).set (fun _ => rfl)).set (fun _ => rfl))
  · exact fun m2 _ dd _ => ⟨[], by rw [cT_of]; simp [sV]⟩
theorem tcode_reader_sort.w {m : Sto} {x p x0 : Nat} {K : CR → Sto → Nat → Prop} (s : List Nat) (hl : Byt s) (hn : s.length ≤ 10000) (f : Nat → Nat → Nat → TR) (wi bi : Int) (b a n d : Nat) (hp : p < x0) (hx0 : x0 ≤ x) (hm : m p = rcT s a n 0) (hI : InnM p x0 m)
    (hK : TK (TPost0 (partT s f 2 b a n)) s p x0 x m (d + 1) K) :
    w ctx (envOf [.p p 0, .ag [.i .i64 wi, .i .i64 bi]]) m x [] none none (RetG ctx tcode_reader_sort.c.rs K) tcode_reader_sort.c.code := by
  have hf : ctx.frz tcode_reader_levels.n = false := rfl
  simp +contextual (disch := omega) [Nat.add_assoc, Int.add_assoc, if_pos, if_neg, -Int.not_lt, -Int.not_le, -Nat.not_lt, -Nat.not_le, -List.length_flatMap, tcode_reader_sort.c]
  rw [CallX_op (by rfl)]
  refine openg_w rfl rfl (.inl rfl) ?_
  rw [hf]
  generalize hM : Sto.set _ (x + 1) _ = M
  have hMj : ∀ j, j < x → M j = m j := fun j hj => by rw [← hM, Sto.sne _ _ _ _ (by omega), Sto.sne _ _ _ _ (by omega)]
  have hM1 : M (x + 1) = some (.cells [.i .i64 0, .i .i64 0, .ns, .ns] false) := by rw [← hM, Sto.seq]
  have hMI : InnM p x0 M := by rw [← hM]; exact (hI.set (fun _ => rfl)).set (fun _ => rfl)
  refine tcode_reader_levels.w (x0 := x0) s hl hn a n 1 (by omega) hp (by omega) ((hMj p (by omega)).trans hm) hMI ?_
  intro m2 x2 B vs a' e' hP k1 k2 k3 k4 k5 k6
  have t1 := (k2 (x + 1) (by omega) (by omega)).trans hM1
  simp +contextual (disch := omega) [Nat.add_assoc, Int.add_assoc, if_pos, if_neg, -Int.not_lt, -Int.not_le, -Nat.not_lt, -Nat.not_le, -List.length_flatMap, t1, k4.stor, k4.cells]
  refine hK _ _ _ (.mk 0 0 vs []) a' n e' ?_ (by omega) (fun j h1 h2 => ?_) ?_ ?_ rfl ?_ ?_
  · unfold partT
    rw [if_neg (by omega), if_pos rfl]
    cases hr : rdLs s 1 a with
    | ok ls a2 => rw [hr] at hP; obtain ⟨rfl, rfl, rfl⟩ := hP; exact ⟨rfl, rfl, rfl, rfl⟩
    | bad e => rw [hr] at hP; exact ⟨rfl, hP⟩
  · rw [Sto.sne _ _ _ _ (by omega), Sto.sne _ _ _ _ (by omega), k2 j (by omega) h2, hMj j h1]
  · rw [Sto.sne _ _ _ _ (by omega), Sto.sne _ _ _ _ (by omega), k3]
  · exact ((k5.set (fun _ => by simp [innO, innL, V.inn, k6])).set (fun _ => by simp [innO, innL, V.inn, k6]))
  · simp [innL, V.inn, k6]
  · generalize hM3 : Sto.set _ (x + 1) _ = M3
    refine (FzT (d := d + 1) ((k4.up (m' := M3) (x' := x2 + 4) (by omega) (fun j h1 h2 => ?_))) FzN (by omega)).low (by omega)
    rw [← hM3, Sto.sne _ _ _ _ (by omega), Sto.sne _ _ _ _ (by omega)]
theorem tcode_reader_constant.w {m : Sto} {x p x0 : Nat} {K : CR → Sto → Nat → Prop} (s : List Nat) (hl : Byt s) (hn : s.length ≤ 10000) (f : Nat → Nat → Nat → TR) (wi bi : Int) (b a n d : Nat) (hp : p < x0) (hx0 : x0 ≤ x) (hm : m p = rcT s a n 0) (hI : InnM p x0 m)
    (hK : TK (TPost0 (partT s f 3 b a n)) s p x0 x m (d + 1) K) :
    w ctx (envOf [.p p 0, .ag [.i .i64 wi, .i .i64 bi]]) m x [] none none (RetG ctx tcode_reader_constant.c.rs K) tcode_reader_constant.c.code := by
  have hf : ctx.frz tcode_reader_levels.n = false := rfl
  have hfn : ctx.frz tcode_reader_number.n = false := rfl
  simp +contextual (disch := omega) [Nat.add_assoc, Int.add_assoc, if_pos, if_neg, -Int.not_lt, -Int.not_le, -Nat.not_lt, -Nat.not_le, -List.length_flatMap, tcode_reader_constant.c]
  rw [CallX_op (by rfl)]
  refine openg_w rfl rfl (.inl rfl) ?_
  rw [hfn]
  generalize hM : Sto.set _ (x + 1) _ = M
  have hMj : ∀ j, j < x → M j = m j := fun j hj => by rw [← hM, Sto.sne _ _ _ _ (by omega), Sto.sne _ _ _ _ (by omega)]
  have hM1 : M (x + 1) = some (.cells [.i .i64 0, .i .i64 0, .ns, .ns] false) := by rw [← hM, Sto.seq]
  have hMI : InnM p x0 M := by rw [← hM]; exact (hI.set (fun _ => rfl)).set (fun _ => rfl)
  refine tcode_reader_number.w s hl hn a n 20 ((hMj p (by omega)).trans hm) ?_
  intro m2 x2 k1 k2 k3
  have t1 := (k2 (x + 1) (by omega)).trans hM1
  have hI2 := hMI.of hp k2
  unfold partT at hK
  rw [if_neg (by omega), if_neg (by omega), if_pos rfl] at hK
  generalize numT s a 20 = r at hK k3
  obtain ⟨N, a1, e1⟩ := r
  simp only at hK k3 ⊢
  have he : e1 = 0 ∨ e1 ≠ 0 := by omega
  rcases he with rfl | he
  · rw [if_neg (by omega)] at hK
    simp +contextual (disch := omega) [Nat.add_assoc, Int.add_assoc, if_pos, if_neg, -Int.not_lt, -Int.not_le, -Nat.not_lt, -Nat.not_le, -List.length_flatMap, t1]
    rw [CallX_op (by rfl)]
    refine openg_w rfl rfl (.inl rfl) ?_
    rw [hfn]
    generalize hM3 : Sto.set _ (x + 1) _ = M3
    have hM3j : ∀ j, j ≠ x + 1 → M3 j = m2 j := fun j hj => by rw [← hM3, Sto.sne _ _ _ _ hj]
    have hM31 : M3 (x + 1) = some (.cells [.i .i64 0, .i .i64 N, .ns, .ns] false) := by rw [← hM3, Sto.seq]
    have hM3I : InnM p x0 M3 := by rw [← hM3]; exact hI2.set (fun _ => rfl)
    refine tcode_reader_number.w s hl hn a1 n 6 ((hM3j p (by omega)).trans k3) ?_
    intro m4 x4 q1 q2 q3
    have t4 := (q2 (x + 1) (by omega)).trans hM31
    have hI4 := hM3I.of hp q2
    generalize hr2 : numT s a1 6 = r2 at hK q3 ⊢
    obtain ⟨M, a2, e2⟩ := r2
    simp only at hK q3 ⊢
    have he2 : e2 = 0 ∨ e2 ≠ 0 := by omega
    rcases he2 with rfl | he2
    · rw [if_neg (by omega)] at hK
      have hM5 : M < 6 := by have := numT_lt (s := s) (a := a1) (most := 6) (by rw [hr2]); rw [hr2] at this; exact this
      simp +contextual (disch := omega) [Nat.add_assoc, Int.add_assoc, if_pos, if_neg, -Int.not_lt, -Int.not_le, -Nat.not_lt, -Nat.not_le, -List.length_flatMap, t4]
      rw [CallX_op (by rfl)]
      refine openg_w rfl rfl (.inl rfl) ?_
      rw [hf]
      refine tcode_reader_levels.w (x0 := x0) s hl hn a2 n M (by omega) hp (by omega) q3 hI4 ?_
      intro m6 x6 B vs a' e' hP r1 r2 r3 r4 r5 r6
      have t6 := (r2 (x + 1) (by omega) (by omega)).trans t4
      simp +contextual (disch := omega) [Nat.add_assoc, Int.add_assoc, if_pos, if_neg, -Int.not_lt, -Int.not_le, -Nat.not_lt, -Nat.not_le, -List.length_flatMap, t6, r4.stor, r4.cells]
      refine hK _ _ _ (.mk 0 N vs []) a' n e' ?_ (by omega) (fun j h1 h2 => ?_) ?_ ?_ rfl ?_ ?_
      · cases hr : rdLs s M a2 with
        | ok ls a2 => rw [hr] at hP; obtain ⟨rfl, rfl, rfl⟩ := hP; exact ⟨rfl, rfl, rfl, rfl⟩
        | bad e => rw [hr] at hP; exact ⟨rfl, hP⟩
      · rw [Sto.sne _ _ _ _ (by omega), Sto.sne _ _ _ _ (by omega), r2 j (by omega) h2, q2 j h2, hM3j j (by omega), k2 j h2, hMj j h1]
      · rw [Sto.sne _ _ _ _ (by omega), Sto.sne _ _ _ _ (by omega), r3]
      · exact ((r5.set (fun _ => by simp [innO, innL, V.inn, r6])).set (fun _ => by simp [innO, innL, V.inn, r6]))
      · simp [innL, V.inn, r6]
      · generalize hM7 : Sto.set _ (x + 1) _ = M7
        refine (FzT (d := d + 1) ((r4.up (m' := M7) (x' := x6 + 4) (by omega) (fun j h1 h2 => ?_))) FzN (by omega)).low (by omega)
        rw [← hM7, Sto.sne _ _ _ _ (by omega), Sto.sne _ _ _ _ (by omega)]
    · rw [if_pos he2] at hK
      have hM0 : M = 0 := by have := numT_bad (s := s) (a := a1) (most := 6) (by rw [hr2]; exact he2); rw [hr2] at this; exact this
      subst hM0
      simp +contextual (disch := omega) [Nat.add_assoc, Int.add_assoc, if_pos, if_neg, -Int.not_lt, -Int.not_le, -Nat.not_lt, -Nat.not_le, -List.length_flatMap, t4]
      rw [CallX_op (by rfl)]
      refine openg_w rfl rfl (.inl rfl) ?_
      rw [hf]
      refine tcode_reader_levels.z ?_
      intro x6 r1
      simp +contextual (disch := omega) [Nat.add_assoc, Int.add_assoc, if_pos, if_neg, -Int.not_lt, -Int.not_le, -Nat.not_lt, -Nat.not_le, -List.length_flatMap, t4]
      refine hK _ _ _ (.mk 0 N [] []) a2 n e2 ⟨rfl, rfl, he2⟩ (by omega) (fun j h1 h2 => ?_) ?_ ?_ rfl rfl (FzT Bn.nil FzN (by omega))
      · rw [Sto.sne _ _ _ _ (by omega), Sto.sne _ _ _ _ (by omega), q2 j h2, hM3j j (by omega), k2 j h2, hMj j h1]
      · rw [Sto.sne _ _ _ _ (by omega), Sto.sne _ _ _ _ (by omega), q3]
      · exact ((hI4.set (fun _ => rfl)).set (fun _ => rfl))
  · rw [if_pos he] at hK
    simp +contextual (disch := omega) [Nat.add_assoc, Int.add_assoc, if_pos, if_neg, -Int.not_lt, -Int.not_le, -Nat.not_lt, -Nat.not_le, -List.length_flatMap, t1]
    rw [CallX_op (by rfl)]
    refine openg_w rfl rfl (.inl rfl) ?_
    rw [hfn]
    generalize hM3 : Sto.set _ (x + 1) _ = M3
    have hM3j : ∀ j, j ≠ x + 1 → M3 j = m2 j := fun j hj => by rw [← hM3, Sto.sne _ _ _ _ hj]
    have hM31 : M3 (x + 1) = some (.cells [.i .i64 0, .i .i64 N, .ns, .ns] false) := by rw [← hM3, Sto.seq]
    have hM3I : InnM p x0 M3 := by rw [← hM3]; exact hI2.set (fun _ => rfl)
    have hM3p := (hM3j p (by omega)).trans k3
    refine tcode_reader_number.e s a1 n e1 6 (by omega) hM3p ?_
    intro x4 q1
    simp +contextual (disch := omega) [Nat.add_assoc, Int.add_assoc, if_pos, if_neg, -Int.not_lt, -Int.not_le, -Nat.not_lt, -Nat.not_le, -List.length_flatMap, hM31]
    rw [CallX_op (by rfl)]
    refine openg_w rfl rfl (.inl rfl) ?_
    rw [hf]
    refine tcode_reader_levels.z ?_
    intro x6 r1
    simp +contextual (disch := omega) [Nat.add_assoc, Int.add_assoc, if_pos, if_neg, -Int.not_lt, -Int.not_le, -Nat.not_lt, -Nat.not_le, -List.length_flatMap, hM31]
    refine hK _ _ _ (.mk 0 N [] []) a1 n e1 ⟨rfl, rfl, he⟩ (by omega) (fun j h1 h2 => ?_) ?_ ?_ rfl rfl (FzT Bn.nil FzN (by omega))
    · rw [Sto.sne _ _ _ _ (by omega), Sto.sne _ _ _ _ (by omega), hM3j j (by omega), k2 j h2, hMj j h1]
    · rw [Sto.sne _ _ _ _ (by omega), Sto.sne _ _ _ _ (by omega), hM3p]
    · exact ((hM3I.set (fun _ => rfl)).set (fun _ => rfl))
end Pi


set_option linter.unusedSimpArgs false
set_option linter.unusedVariables false
namespace Pi
/-- What stands behind a reading in a region of open order. -/
def TQ (P : Tm → Int → Int → Int → Prop) (s : List Nat) (p x : Nat) (m : Sto) (d : Nat) (K : QR → Prop) : Prop :=
  ∀ cs ws ids x' v (a n e : Int), P v a n e → x ≤ x' → (∀ j, j < x → j ≠ p → (m.app ws) j = m j) → (∀ j, x' ≤ j → (m.app ws) j = m j) → (m.app ws) p = rcT s a n e → (∀ j, x ≤ j → j < x' → innO (orNew [p] x) ((m.app ws) j) = true) →
      (∀ j ∈ ids, j = p ∨ (x ≤ j ∧ j < x')) → ws.map Prod.fst = ids → cs.length = 4 → innL (orNew [p] x) cs = true → FzAt (m.app ws) x x' d cs (cT v) → K ⟨.ag cs, ws, ids, x', false⟩
theorem term_q {g : Nat} {F : PFun} (hF : ctx.fns g = some F) (hpr : ctx.prim g = none) (ho : ctx.opn g = true) (hq : ctx.frz g = false) (s : List Nat) (p d : Nat) (wi bi : Int) {P : Tm → Int → Int → Int → Prop} {a n : Nat}
    (hw : ∀ {m : Sto} {x : Nat} {K : CR → Sto → Nat → Prop}, p < x → m p = rcT s a n 0 → (∀ j, x ≤ j → m j = none) → TK P s p x x m d K → w ctx (envOf [.p p 0, .ag [.i .i64 wi, .i .i64 bi]]) m x [] none none (RetG ctx F.rs K) F.code)
    {m : Sto} {x : Nat} {K : QR → Prop} (hp : p < x) (hm : m p = rcT s a n 0) (hK : TQ P s p x m d K) : wpQuiet ctx (.fn (.func g) [] []) [.p p 0, .ag [.i .i64 wi, .i .i64 bi]] m x K := by
  unfold rcT at hm
  have hz : freezeL m ([] ++ [.p p 0, .ag [.i .i64 wi, .i .i64 bi]] ++ []) = some ([.rp [.s (bs s), .i .i64 a, .i .i64 n, .i .i64 0], .ag [.i .i64 wi, .i .i64 bi]], [p]) := by
    simp +contextual (disch := omega) [Nat.add_assoc, Int.add_assoc, if_pos, if_neg, -Int.not_lt, -Int.not_le, -Nat.not_lt, -Nat.not_le, -List.length_flatMap, hm]
  have honly : (m.only [p]) p = rcT s a n 0 := by unfold Sto.only; rw [if_pos (by simp), hm]; rfl
  have hnone : ∀ j, x ≤ j → (m.only [p]) j = none := fun j hj => by unfold Sto.only; rw [if_neg (by simp; omega)]
  refine openr_w hF hpr ho hq hz (.inl (by simp)) ?_ ?_
  · simp [reachOK, innL, V.inn, hm, innO, hp]
  refine hw hp honly hnone ?_
  have hxx : ∀ x', x ≤ x' → x + (x' - x) = x' := fun x' h => by omega
  intro cs m' x' u a' n' e' hP h1 h2 h3 h4 h5 h6 h7
  show ReachK [p] x (.ag cs) m' x' K false
  refine ⟨by simpa [V.inn] using h6, fun j hj => ?_, fun j q1 q2 => h4 j q1, fun ws ids w1 w2 w3 => ?_⟩
  · rw [List.mem_singleton.1 hj, h3]; simp [rcT, innO, innL, V.inn]
  · rw [hxx _ h1]
    have s4 : ∀ j, x ≤ j → j < x' → (m.app ws) j = m' j := fun j h1 h2 => by rw [w3, if_pos ⟨h1, h2⟩]
    refine hK cs ws ids x' u a' n' e' hP h1 (fun j h1 h2 => ?_) (fun j h1 => ?_) ?_ (fun j q1 q2 => by rw [s4 j q1 q2]; exact h4 j q1) (fun j hj => by have := w1 j hj; simpa using this) w2 h5 h6 (h7.wide (Nat.le_refl _) (Nat.le_refl _) s4)
    · rw [w3, if_neg (by omega), if_neg (by simpa using h2)]
    · rw [w3, if_neg (by omega), if_neg (by simp; omega)]
    · rw [w3, if_neg (by omega), if_pos (by simp), h3]
set_option maxHeartbeats 2000000 in
theorem tcode_reader_kids.w {m : Sto} {x p x0 : Nat} {K : CR → Sto → Nat → Prop} (s : List Nat) (f : Nat → Nat → Nat → TR) (wi be : Nat) (bd : Int) (bl : List Nat) (a n d k : Nat) (hwi : wi ≤ 1000) (hbe : be ≤ 1000) (hbl : bl.length ≤ 3) (hbi : ∀ i (h : i < bl.length), (bl[i] : Int) = be + if (i : Int) = bd then 1 else 0)
    (hw : ∀ (b a n : Nat) {m : Sto} {x : Nat} {K : CR → Sto → Nat → Prop}, b ∈ bl → p < x → m p = rcT s a n 0 → (∀ j, x ≤ j → m j = none) → TK (TPost (f b a n)) s p x x m d K → w ctx (envOf [.p p 0, .ag [.i .i64 ((wi : Int) + 1), .i .i64 b]]) m x [] none none (RetG ctx tcode_reader_term.c.rs K) tcode_reader_term.c.code)
    (hp : p < x0) (hx0 : x0 ≤ x) (hm : m p = rcT s a n 0) (hI : InnM p x0 m)
    (hK : TK (TPost0 ((rdKs f bl a n).tm k)) s p x0 x m (d + 1) K) :
    w ctx (envOf [.p p 0, .ag [.i .i64 wi, .i .i64 be], .i .i64 bl.length, .i .i64 bd]) m x [] none none (RetG ctx tcode_reader_kids.c.rs K) tcode_reader_kids.c.code := by
  simp +contextual (disch := omega) [Nat.add_assoc, Int.add_assoc, if_pos, if_neg, -Int.not_lt, -Int.not_le, -Nat.not_lt, -Nat.not_le, -List.length_flatMap, tcode_reader_kids.c]
  refine for_w (fun i e' m' x' => ∃ B vs, ∃ (ai ni er : Int), (e' 0 = .p p 0 ∧ e' 3 = .i .i64 bd ∧ e' 5 = .p x 0 ∧ e' 8 = .p (x + 1) 0 ∧ e' 11 = .i .i64 bl.length ∧ e' 12 = .i .i64 i) ∧ x + 2 ≤ x' ∧ m' x = some (.cells [.i .i64 wi, .i .i64 be] false) ∧ m' (x + 1) = some (.cells [.i .i64 0, .i .i64 0, .ns, B] false) ∧
      Bn m' B cT 4 vs (x + 2) x' d ∧ vs.length ≤ i ∧ m' p = rcT s ai ni er ∧ (∀ j, j < x → j ≠ p → m' j = m j) ∧ InnM p x0 m' ∧ B.inn (orNew [p] x0) = true ∧
      ((er = 0 ∧ ∃ a2 n2 : Nat, ai = a2 ∧ ni = n2 ∧ rdKs f bl a n = (rdKs f (bl.drop i) a2 n2).pre vs) ∨ (∃ q : Nat, er = q ∧ q ≠ 0 ∧ rdKs f bl a n = .bad q))) bl.length ?_ ?_ ?_
  · refine ⟨.ns, [], a, n, 0, by simp +contextual (disch := omega) [Nat.add_assoc, Int.add_assoc, if_pos, if_neg, -Int.not_lt, -Int.not_le, -Nat.not_lt, -Nat.not_le, -List.length_flatMap], by omega, ?_, ?_, Bn.nil, by simp, ?_, fun j h1 h2 => ?_, (hI.set (fun _ => rfl)).set (fun _ => rfl), rfl, .inl ⟨rfl, a, n, rfl, rfl, by rw [KR.pre_nil]; rfl⟩⟩
    · simp +contextual (disch := omega) [Nat.add_assoc, Int.add_assoc, if_pos, if_neg, -Int.not_lt, -Int.not_le, -Nat.not_lt, -Nat.not_le, -List.length_flatMap]
    · simp +contextual (disch := omega) [Nat.add_assoc, Int.add_assoc, if_pos, if_neg, -Int.not_lt, -Int.not_le, -Nat.not_lt, -Nat.not_le, -List.length_flatMap]
    · simp +contextual (disch := omega) [Nat.add_assoc, Int.add_assoc, if_pos, if_neg, -Int.not_lt, -Int.not_le, -Nat.not_lt, -Nat.not_le, -List.length_flatMap, hm]
    · simp +contextual (disch := omega) [Nat.add_assoc, Int.add_assoc, if_pos, if_neg, -Int.not_lt, -Int.not_le, -Nat.not_lt, -Nat.not_le, -List.length_flatMap]
  · rintro i e' m' x' hi ⟨B, vs, ai, ni, er, ⟨g0, g3, g5, g8, g11, g12⟩, k1, k2, k3, k4, k5, k6, k7, k8, k9, k10⟩
    have k6' := k6
    unfold rcT at k6'
    rcases k10 with ⟨rfl, a2, n2, rfl, rfl, k10⟩ | ⟨q, rfl, hq, k10⟩
    · have hbii := hbi i hi
      rw [List.drop_eq_getElem_cons hi, rdKs_cons] at k10
      have hmem := List.getElem_mem hi
      generalize bl[i] = b at hbii hmem k10
      have fin : True := trivial
      by_cases hb : (i : Int) = bd
      · rw [if_pos hb] at hbii
        subst hb
        simp +contextual (disch := omega) [Nat.add_assoc, Int.add_assoc, if_pos, if_neg, -Int.not_lt, -Int.not_le, -Nat.not_lt, -Nat.not_le, -List.length_flatMap, tcode_reader_kids.b1, g0, g3, g5, g8, g11, g12, hi, k2, k3, k6']
        rw [CallQ_op (by rfl)]
        generalize hMM : Sto.set _ (x' + 14) _ = M
        have hMj : ∀ j, j < x' → M j = m' j := fun j hj => by rw [← hMM]; simp +contextual (disch := omega) [Nat.add_assoc, Int.add_assoc, if_pos, if_neg, -Int.not_lt, -Int.not_le, -Nat.not_lt, -Nat.not_le, -List.length_flatMap]
        have hMI : InnM p x0 M := by rw [← hMM]; repeat (first | exact k8 | refine InnM.set ?_ (fun _ => rfl))
        clear hMM
        refine term_q tcode_reader_term.f rfl rfl rfl s p d _ _ (fun {m x K} h1 h2 h3 h4 => by have := hw b a2 n2 (K := K) hmem h1 h2 h3 h4; rwa [hbii] at this) (by omega) ((hMj p (by omega)).trans k6) ?_
        intro cs ws ids x2 v a' n' er hP q1 q2 q3 q4 q5 q6 q7 q8 q9 q10
        have hws : ∀ (a : Nat) (b : Option PObj), (a, b) ∈ ws → ¬ a = x + 1 := fun a b h e => by
          have h1 : a ∈ ids := by rw [← q7]; exact List.mem_map.2 ⟨(a, b), h, rfl⟩
          have := q6 a h1
          omega
        have hws2 : ∀ (a : Nat) (b : Option PObj), (a, b) ∈ ws → ¬ a = x' + 14 := fun a b h e => by
          have h1 : a ∈ ids := by rw [← q7]; exact List.mem_map.2 ⟨(a, b), h, rfl⟩
          have := q6 a h1
          omega
        simp +contextual (disch := omega) [Nat.add_assoc, Int.add_assoc, if_pos, if_neg, -Int.not_lt, -Int.not_le, -Nat.not_lt, -Nat.not_le, -List.length_flatMap]
        rw [IfK_pos ⟨hws, by omega⟩, List.take_of_length_le (by omega)]
        generalize hM2 : Sto.set (M.app ws) x2 _ = M2
        have hj2 : ∀ j, j < x' → j ≠ p → M2 j = m' j := fun j h1 h2 => by rw [← hM2, Sto.sne _ _ _ _ (by omega), q2 j (by omega) h2, hMj j h1]
        have hI2 : InnM p x0 M2 := by
          rw [← hM2]
          refine InnM.set (fun j hj => ?_) (fun _ => by simpa [innO] using innL_mono (orNew_up (by omega)) cs q9)
          by_cases hjx : j < x' + 28
          · rw [q2 j (by omega) (by omega)]; exact hMI j hj
          · by_cases hjx' : j < x2
            · exact innO_mono (orNew_up (by omega)) _ (q5 j (by omega) hjx')
            · rw [q3 j (by omega)]; exact hMI j hj
        have hp2 : M2 p = rcT s a' n' er := by rw [← hM2, Sto.sne _ _ _ _ (by omega), q4]
        refine opK_with (fun u ws => InnM p x0 (M2.app ws) ∧ u.inn (orNew [p] x0) = true) (fun u ws h => InnM.apG hI2 k4 (fun j h1 h2 => hj2 j h2 (by omega)) (by omega) (by omega) (innL_mono (orNew_up (by omega)) cs q9) h) ?_
        refine k4.ap v (fun j h1 h2 => hj2 j h2 (by omega)) (by omega) (by omega) (q10.wide (by omega) (by omega) (fun j h1 h2 => by rw [← hM2, Sto.sne _ _ _ _ (by omega)])) q8 rfl (by omega) ?_
        intro B' ws2 M3 z0 z1 z2 z3 z4
        rw [z0] at z4
        have t0 := (z2 x (by omega)).trans ((hj2 x (by omega) (by omega)).trans k2)
        have t1 := (z2 (x + 1) (by omega)).trans ((hj2 (x + 1) (by omega) (by omega)).trans k3)
        simp +contextual (disch := omega) [Nat.add_assoc, Int.add_assoc, if_pos, if_neg, -Int.not_lt, -Int.not_le, -Nat.not_lt, -Nat.not_le, -List.length_flatMap, z0, t0, t1, z1.stor, z1.cells, g0, g3, g5, g8, g11, g12]
        refine ⟨by omega, vs ++ [v], z1.up (by omega) (fun j h1 h2 => Sto.sne _ _ _ _ (by omega)), by simp; omega, a', n', er, ?_, fun j h1 h2 => ?_, z4.1.set (fun _ => by simp [innO, innL, V.inn, z4.2]), z4.2, ?_⟩
        · rw [z2 p (by omega), hp2]
        · rw [z2 j (by omega), hj2 j (by omega) h2, k7 j h1 h2]
        · rw [k10]
          cases hr : f b a2 n2 with
          | ok v2 a3 n3 =>
            rw [hr] at hP
            obtain ⟨rfl, rfl, rfl, rfl⟩ := hP
            exact .inl ⟨rfl, a3, rfl, n3, rfl, by rw [KR.pre_pre]⟩
          | bad q =>
            rw [hr] at hP
            exact .inr ⟨q, hP.1, hP.2, rfl⟩
      · rw [if_neg hb] at hbii
        rw [Int.add_zero] at hbii
        simp +contextual (disch := omega) [Nat.add_assoc, Int.add_assoc, if_pos, if_neg, -Int.not_lt, -Int.not_le, -Nat.not_lt, -Nat.not_le, -List.length_flatMap, tcode_reader_kids.b1, g0, g3, g5, g8, g11, g12, hi, k2, k3, k6', hb]
        rw [CallQ_op (by rfl)]
        generalize hMM : Sto.set _ (x' + 14) _ = M
        have hMj : ∀ j, j < x' → M j = m' j := fun j hj => by rw [← hMM]; simp +contextual (disch := omega) [Nat.add_assoc, Int.add_assoc, if_pos, if_neg, -Int.not_lt, -Int.not_le, -Nat.not_lt, -Nat.not_le, -List.length_flatMap]
        have hMI : InnM p x0 M := by rw [← hMM]; repeat (first | exact k8 | refine InnM.set ?_ (fun _ => rfl))
        clear hMM
        refine term_q tcode_reader_term.f rfl rfl rfl s p d _ _ (fun {m x K} h1 h2 h3 h4 => by have := hw b a2 n2 (K := K) hmem h1 h2 h3 h4; rwa [hbii] at this) (by omega) ((hMj p (by omega)).trans k6) ?_
        intro cs ws ids x2 v a' n' er hP q1 q2 q3 q4 q5 q6 q7 q8 q9 q10
        have hws : ∀ (a : Nat) (b : Option PObj), (a, b) ∈ ws → ¬ a = x + 1 := fun a b h e => by
          have h1 : a ∈ ids := by rw [← q7]; exact List.mem_map.2 ⟨(a, b), h, rfl⟩
          have := q6 a h1
          omega
        have hws2 : ∀ (a : Nat) (b : Option PObj), (a, b) ∈ ws → ¬ a = x' + 14 := fun a b h e => by
          have h1 : a ∈ ids := by rw [← q7]; exact List.mem_map.2 ⟨(a, b), h, rfl⟩
          have := q6 a h1
          omega
        simp +contextual (disch := omega) [Nat.add_assoc, Int.add_assoc, if_pos, if_neg, -Int.not_lt, -Int.not_le, -Nat.not_lt, -Nat.not_le, -List.length_flatMap]
        rw [IfK_pos ⟨hws, by omega⟩, List.take_of_length_le (by omega)]
        generalize hM2 : Sto.set (M.app ws) x2 _ = M2
        have hj2 : ∀ j, j < x' → j ≠ p → M2 j = m' j := fun j h1 h2 => by rw [← hM2, Sto.sne _ _ _ _ (by omega), q2 j (by omega) h2, hMj j h1]
        have hI2 : InnM p x0 M2 := by
          rw [← hM2]
          refine InnM.set (fun j hj => ?_) (fun _ => by simpa [innO] using innL_mono (orNew_up (by omega)) cs q9)
          by_cases hjx : j < x' + 23
          · rw [q2 j (by omega) (by omega)]; exact hMI j hj
          · by_cases hjx' : j < x2
            · exact innO_mono (orNew_up (by omega)) _ (q5 j (by omega) hjx')
            · rw [q3 j (by omega)]; exact hMI j hj
        have hp2 : M2 p = rcT s a' n' er := by rw [← hM2, Sto.sne _ _ _ _ (by omega), q4]
        refine opK_with (fun u ws => InnM p x0 (M2.app ws) ∧ u.inn (orNew [p] x0) = true) (fun u ws h => InnM.apG hI2 k4 (fun j h1 h2 => hj2 j h2 (by omega)) (by omega) (by omega) (innL_mono (orNew_up (by omega)) cs q9) h) ?_
        refine k4.ap v (fun j h1 h2 => hj2 j h2 (by omega)) (by omega) (by omega) (q10.wide (by omega) (by omega) (fun j h1 h2 => by rw [← hM2, Sto.sne _ _ _ _ (by omega)])) q8 rfl (by omega) ?_
        intro B' ws2 M3 z0 z1 z2 z3 z4
        rw [z0] at z4
        have t0 := (z2 x (by omega)).trans ((hj2 x (by omega) (by omega)).trans k2)
        have t1 := (z2 (x + 1) (by omega)).trans ((hj2 (x + 1) (by omega) (by omega)).trans k3)
        simp +contextual (disch := omega) [Nat.add_assoc, Int.add_assoc, if_pos, if_neg, -Int.not_lt, -Int.not_le, -Nat.not_lt, -Nat.not_le, -List.length_flatMap, z0, t0, t1, z1.stor, z1.cells, g0, g3, g5, g8, g11, g12]
        refine ⟨by omega, vs ++ [v], z1.up (by omega) (fun j h1 h2 => Sto.sne _ _ _ _ (by omega)), by simp; omega, a', n', er, ?_, fun j h1 h2 => ?_, z4.1.set (fun _ => by simp [innO, innL, V.inn, z4.2]), z4.2, ?_⟩
        · rw [z2 p (by omega), hp2]
        · rw [z2 j (by omega), hj2 j (by omega) h2, k7 j h1 h2]
        · rw [k10]
          cases hr : f b a2 n2 with
          | ok v2 a3 n3 =>
            rw [hr] at hP
            obtain ⟨rfl, rfl, rfl, rfl⟩ := hP
            exact .inl ⟨rfl, a3, rfl, n3, rfl, by rw [KR.pre_pre]⟩
          | bad q =>
            rw [hr] at hP
            exact .inr ⟨q, hP.1, hP.2, rfl⟩
    · have hq' : ¬ (q : Int) = 0 := by omega
      simp +contextual (disch := omega) [Nat.add_assoc, Int.add_assoc, if_pos, if_neg, -Int.not_lt, -Int.not_le, -Nat.not_lt, -Nat.not_le, -List.length_flatMap, tcode_reader_kids.b1, g0, g3, g5, g8, g11, g12, hi, k2, k3, k6', hq', hq]
      refine hK _ _ _ (.mk 0 0 [] vs) ai ni q ?_ (by omega) (fun j h1 h2 => ?_) ?_ (k8.set (fun _ => by simp [innO, innL, V.inn, k9])) rfl (by simp [innL, V.inn, k9]) ?_
      · rw [k10]; exact ⟨rfl, rfl, hq⟩
      · rw [Sto.sne _ _ _ _ (by omega), k7 j h1 h2]
      · rw [Sto.sne _ _ _ _ (by omega), k6]
      · exact (FzT Bn.nil (k4.up (m' := m'.set (x + 1) _) (x' := x' + 10) (by omega) (fun j h1 h2 => by rw [Sto.sne _ _ _ _ (by omega)])).at (by omega)).low (by omega)
  · rintro e' m' x' ⟨B, vs, ai, ni, er, ⟨g0, g3, g5, g8, g11, g12⟩, k1, k2, k3, k4, k5, k6, k7, k8, k9, k10⟩
    simp +contextual (disch := omega) [Nat.add_assoc, Int.add_assoc, if_pos, if_neg, -Int.not_lt, -Int.not_le, -Nat.not_lt, -Nat.not_le, -List.length_flatMap, tcode_reader_kids.b1, g0, g3, g5, g8, g11, g12, k3]
    refine hK _ _ _ (.mk 0 0 [] vs) ai ni er ?_ (by omega) (fun j h1 h2 => ?_) ?_ (k8.set (fun _ => by simp [innO, innL, V.inn, k9])) rfl (by simp [innL, V.inn, k9]) ?_
    · rcases k10 with ⟨rfl, a2, n2, rfl, rfl, k10⟩ | ⟨q, rfl, hq, k10⟩
      · rw [k10, List.drop_length]
        simp [rdKs, KR.pre, KR.tm, TPost0]
      · rw [k10]; exact ⟨rfl, rfl, hq⟩
    · rw [Sto.sne _ _ _ _ (by omega), k7 j h1 h2]
    · rw [Sto.sne _ _ _ _ (by omega), k6]
    · exact (FzT Bn.nil (k4.up (m' := m'.set (x + 1) _) (x' := x' + 3) (by omega) (fun j h1 h2 => by rw [Sto.sne _ _ _ _ (by omega)])).at (by omega)).low (by omega)
end Pi

