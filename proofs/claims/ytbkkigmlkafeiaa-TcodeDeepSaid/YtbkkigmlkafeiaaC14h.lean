/- Laws of layer 14: bytes that are deep, or have many terms. -/
import Derived.Test.YtbkkigmlkafeiaaC14f
set_option linter.unusedSimpArgs false
set_option linter.unusedVariables false
namespace Pi
def fullT : Nat → List Nat
  | 0 => [1, 0]
  | d + 1 => 4 :: (fullT d ++ fullT d)
theorem fullT_byt : ∀ d, Byt (fullT d)
  | 0 => Byt.cons (by omega) (Byt.cons (by omega) .nil)
  | d + 1 => Byt.cons (by omega) ((fullT_byt d).app (fullT_byt d))
theorem fullT_len : ∀ d, (fullT d).length + 1 = 3 * 2 ^ d
  | 0 => rfl
  | d + 1 => by
    have := fullT_len d
    simp only [fullT, List.length_cons, List.length_append, Nat.pow_succ] at *
    omega
theorem fullT_small {d : Nat} (h : d ≤ 9) : (fullT d).length ≤ 1535 := by
  have h1 := fullT_len d
  have h2 : 2 ^ d ≤ 2 ^ 9 := Nat.pow_le_pow_right (by omega) (by omega)
  omega
theorem law14_full.a : ∀ d : Nat, d ≤ 9 → Ans ctx law14_full.n [.i .i64 d] (.s (bs (fullT d)))
  | 0, _ => by
    refine ans law14_full.f ?_
    simp +contextual (disch := omega) [Nat.add_assoc, Int.add_assoc, if_pos, if_neg, -Int.not_lt, -Int.not_le, -Nat.not_lt, -Nat.not_le, -List.length_flatMap, law14_full.c, fullT]
  | d + 1, h => by
    refine ans law14_full.f ?_
    have ih := law14_full.a d (by omega)
    have hs := fullT_small (d := d) (by omega)
    have e : (d : Int) + 1 - 1 = d := by omega
    simp +contextual (disch := omega) [Nat.add_assoc, Int.add_assoc, if_pos, if_neg, -Int.not_lt, -Int.not_le, -Nat.not_lt, -Nat.not_le, -List.length_flatMap, law14_full.c, e, ansK ih, fullT]
set_option maxHeartbeats 2000000 in
theorem law14_TcodeDeep.a (n : Nat) (hn : n < 256) (how : Nat) (hh : how < 256) : Ans ctx law14_TcodeDeep.n [.i .u8 n, .i .u8 how] (.b true) := by
  refine ans law14_TcodeDeep.f ?_
  have h8 : ((n : Int)).tmod 8 = ((n % 8 : Nat) : Int) := by rw [Int.tmod_eq_emod_of_nonneg (by omega)]; rfl
  have hq8 : n % 8 < 8 := Nat.mod_lt _ (by omega)
  have f9 : Ans ctx law14_full.n [.i .i64 9] (.s (bs (fullT 9))) := law14_full.a 9 (by omega)
  have f8 : Ans ctx law14_full.n [.i .i64 8] (.s (bs (fullT 8))) := law14_full.a 8 (by omega)
  have fq : Ans ctx law14_full.n [.i .i64 ((n : Int) % 8)] (.s (bs (fullT (n % 8)))) := law14_full.a (n % 8) (by omega)
  have l9 := fullT_small (d := 9) (by omega)
  have l8 := fullT_small (d := 8) (by omega)
  have lq := fullT_small (d := n % 8) (by omega)
  have b9 := fullT_byt 9
  have b8 := fullT_byt 8
  have bq := fullT_byt (n % 8)
  generalize fullT 9 = F9 at *
  generalize fullT 8 = F8 at *
  generalize fullT (n % 8) = Fq at *
  have g3 := law14_get.a (4 :: (F8 ++ Fq)) 0 (Byt.cons (by omega) (b8.app bq)) (by simp only [List.length_cons, List.length_append]; omega)
  have g12 : ∀ o : List Nat, Byt o → o.length ≤ 3000 → Ans ctx law14_get.n [.s (bs o), .i .i64 0] (.b true) ∧ Ans ctx law14_get.n [.s (bs (F9 ++ o)), .i .i64 0] (.b true) := fun o h1 h2 => ⟨law14_get.a o 0 h1 (by omega), law14_get.a (F9 ++ o) 0 (b9.app h1) (by rw [List.length_append]; omega)⟩
  have h3 : ((how : Int)).tmod 3 = ((how % 3 : Nat) : Int) := by rw [Int.tmod_eq_emod_of_nonneg (by omega)]; rfl
  have hq3 : how % 3 = 0 ∨ how % 3 = 1 ∨ how % 3 = 2 := by omega
  rcases hq3 with q | q | q
  · have q' : (how : Int) % 3 = 0 := by omega
    obtain ⟨c, hcb, hcl, hc⟩ : ∃ c : List Nat, Byt c ∧ c.length ≤ 5 ∧ [V.s (bs [4, 1, 0]), V.s (bs [5, 2, 1]), V.s (bs [7, 2, 1, 2, 1])][((how : Int) / 3 % 3).toNat]? = some (.s (bs c)) := by
      have e : (how : Int) / 3 % 3 = ((how / 3 % 3 : Nat) : Int) := by omega
      rw [e, Int.toNat_natCast]
      have : how / 3 % 3 = 0 ∨ how / 3 % 3 = 1 ∨ how / 3 % 3 = 2 := by omega
      rcases this with h | h | h <;> rw [h]
      · exact ⟨[4, 1, 0], by intro x hx; simp at hx; omega, by simp, rfl⟩
      · exact ⟨[5, 2, 1], by intro x hx; simp at hx; omega, by simp, rfl⟩
      · exact ⟨[7, 2, 1, 2, 1], by intro x hx; simp at hx; omega, by simp, rfl⟩
    obtain ⟨r, hr⟩ : ∃ r : Nat, (n : Int) % 35 = r := ⟨n % 35, rfl⟩
    have hr35 : r < 35 := by omega
    simp +contextual (disch := omega) [Nat.add_assoc, Int.add_assoc, if_pos, if_neg, -Int.not_lt, -Int.not_le, -Nat.not_lt, -Nat.not_le, -List.length_flatMap, law14_TcodeDeep.c, Int.tmod_eq_emod_of_nonneg, q']
    refine for_w (fun i e m x => ∃ o, e 0 = .i .u8 n ∧ e 1 = .i .u8 how ∧ e 5 = .s (bs o) ∧ e 6 = .i .i64 i ∧ Byt o ∧ o.length ≤ 5 * i) r ?_ ?_ ?_
    · exact ⟨[], by simp +contextual (disch := omega) [Nat.add_assoc, Int.add_assoc, if_pos, if_neg, -Int.not_lt, -Int.not_le, -Nat.not_lt, -Nat.not_le, -List.length_flatMap, Byt.nil]⟩
    · rintro i e m x hi ⟨o, e0, e1, e5, e6, hb, hl⟩
      simp +contextual (disch := omega) [Nat.add_assoc, Int.add_assoc, if_pos, if_neg, -Int.not_lt, -Int.not_le, -Nat.not_lt, -Nat.not_le, -List.length_flatMap, law14_TcodeDeep.b1, e0, e1, e5, e6, Int.tmod_eq_emod_of_nonneg, hr, hi, hc, Int.tdiv_eq_ediv_of_nonneg]
      exact ⟨_, rfl, hb.app hcb, by simp; omega⟩
    · rintro e m x ⟨o, e0, e1, e5, e6, hb, hl⟩
      obtain ⟨g1, g2⟩ := g12 (o ++ [1, 0]) (hb.app (Byt.cons (by omega) (Byt.cons (by omega) .nil))) (by simp; omega)
      simp +contextual (disch := omega) [Nat.add_assoc, Int.add_assoc, if_pos, if_neg, -Int.not_lt, -Int.not_le, -Nat.not_lt, -Nat.not_le, -List.length_flatMap, law14_TcodeDeep.b1, e0, e1, e5, e6, Int.tmod_eq_emod_of_nonneg, hr, ansK g1, ansK f9, ansK g2, ansK f8, ansK fq, ansK g3]
  · have q' : (how : Int) % 3 = 1 := by omega
    obtain ⟨r, hr⟩ : ∃ r : Nat, (n : Int) % 10 = r := ⟨n % 10, rfl⟩
    have hr10 : r < 10 := by omega
    simp +contextual (disch := omega) [Nat.add_assoc, Int.add_assoc, if_pos, if_neg, -Int.not_lt, -Int.not_le, -Nat.not_lt, -Nat.not_le, -List.length_flatMap, law14_TcodeDeep.c, Int.tmod_eq_emod_of_nonneg, q']
    refine for_w (fun i e m x => ∃ o, e 0 = .i .u8 n ∧ e 5 = .s (bs o) ∧ e 7 = .i .i64 i ∧ Byt o ∧ o.length ≤ 5 * i) (297 + r) ?_ ?_ ?_
    · exact ⟨[], by simp +contextual (disch := omega) [Nat.add_assoc, Int.add_assoc, if_pos, if_neg, -Int.not_lt, -Int.not_le, -Nat.not_lt, -Nat.not_le, -List.length_flatMap, Byt.nil]⟩
    · rintro i e m x hi ⟨o, e0, e5, e7, hb, hl⟩
      have b1 : Byt (o ++ [4]) := hb.app (Byt.cons (by omega) .nil)
      have b2 : Byt (o ++ [4, 1, 0]) := hb.app (Byt.cons (by omega) (Byt.cons (by omega) (Byt.cons (by omega) .nil)))
      have b3 : Byt (o ++ [4, 1, 0, 1, 0]) := hb.app (Byt.cons (by omega) (Byt.cons (by omega) (Byt.cons (by omega) (Byt.cons (by omega) (Byt.cons (by omega) .nil)))))
      by_cases h0 : (i : Int) % 20 = 0
      · have h19 : ¬ (i : Int) % 20 = 19 := by omega
        simp +contextual (disch := omega) [Nat.add_assoc, Int.add_assoc, if_pos, if_neg, -Int.not_lt, -Int.not_le, -Nat.not_lt, -Nat.not_le, -List.length_flatMap, law14_TcodeDeep.b2, e0, e5, e7, Int.tmod_eq_emod_of_nonneg, hr, hi, h0, h19]
        exact ⟨_, rfl, b1, by simp; omega⟩
      · by_cases h19 : (i : Int) % 20 = 19
        · simp +contextual (disch := omega) [Nat.add_assoc, Int.add_assoc, if_pos, if_neg, -Int.not_lt, -Int.not_le, -Nat.not_lt, -Nat.not_le, -List.length_flatMap, law14_TcodeDeep.b2, e0, e5, e7, Int.tmod_eq_emod_of_nonneg, hr, hi, h0, h19]
          exact ⟨_, rfl, b3, by simp; omega⟩
        · simp +contextual (disch := omega) [Nat.add_assoc, Int.add_assoc, if_pos, if_neg, -Int.not_lt, -Int.not_le, -Nat.not_lt, -Nat.not_le, -List.length_flatMap, law14_TcodeDeep.b2, e0, e5, e7, Int.tmod_eq_emod_of_nonneg, hr, hi, h0, h19]
          exact ⟨_, rfl, b2, by simp; omega⟩
    · rintro e m x ⟨o, e0, e5, e7, hb, hl⟩
      obtain ⟨g1, g2⟩ := g12 (o ++ [1, 0, 1, 0]) (hb.app (Byt.cons (by omega) (Byt.cons (by omega) (Byt.cons (by omega) (Byt.cons (by omega) .nil))))) (by simp; omega)
      simp +contextual (disch := omega) [Nat.add_assoc, Int.add_assoc, if_pos, if_neg, -Int.not_lt, -Int.not_le, -Nat.not_lt, -Nat.not_le, -List.length_flatMap, law14_TcodeDeep.b2, e0, e5, e7, Int.tmod_eq_emod_of_nonneg, hr, ansK g1, ansK f9, ansK g2, ansK f8, ansK fq, ansK g3]
  · have q' : (how : Int) % 3 = 2 := by omega
    have n3 : (n : Int) % 3 = 0 ∨ (n : Int) % 3 = 1 ∨ (n : Int) % 3 = 2 := by omega
    have w7 : Go.IntKind.u8.wrap (Go.IntKind.i64.wrap 7) = 7 := by decide
    rcases n3 with n3 | n3 | n3
    · obtain ⟨g1, g2⟩ := g12 [5, 2, 1, 1, 231, 7] (by intro x hx; simp at hx; omega) (by simp)
      simp +contextual (disch := omega) [Nat.add_assoc, Int.add_assoc, if_pos, if_neg, -Int.not_lt, -Int.not_le, -Nat.not_lt, -Nat.not_le, -List.length_flatMap, law14_TcodeDeep.c, Int.tmod_eq_emod_of_nonneg, q', n3, Int.tdiv_eq_ediv_of_nonneg, w7, ansK g1, ansK f9, ansK g2, ansK f8, ansK fq, ansK g3]
    · obtain ⟨g1, g2⟩ := g12 [5, 2, 1, 1, 232, 7] (by intro x hx; simp at hx; omega) (by simp)
      simp +contextual (disch := omega) [Nat.add_assoc, Int.add_assoc, if_pos, if_neg, -Int.not_lt, -Int.not_le, -Nat.not_lt, -Nat.not_le, -List.length_flatMap, law14_TcodeDeep.c, Int.tmod_eq_emod_of_nonneg, q', n3, Int.tdiv_eq_ediv_of_nonneg, w7, ansK g1, ansK f9, ansK g2, ansK f8, ansK fq, ansK g3]
    · obtain ⟨g1, g2⟩ := g12 [5, 2, 1, 1, 233, 7] (by intro x hx; simp at hx; omega) (by simp)
      simp +contextual (disch := omega) [Nat.add_assoc, Int.add_assoc, if_pos, if_neg, -Int.not_lt, -Int.not_le, -Nat.not_lt, -Nat.not_le, -List.length_flatMap, law14_TcodeDeep.c, Int.tmod_eq_emod_of_nonneg, q', n3, Int.tdiv_eq_ediv_of_nonneg, w7, ansK g1, ansK f9, ansK g2, ansK f8, ansK fq, ansK g3]
end Pi

