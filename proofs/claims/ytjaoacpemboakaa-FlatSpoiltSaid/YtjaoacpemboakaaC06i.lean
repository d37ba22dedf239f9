/- Laws of layer 6: flats with one thing spoilt. -/
import Derived.Test.YtjaoacpemboakaaC06h
set_option linter.unusedSimpArgs false
set_option linter.unusedVariables false
namespace Pi
theorem law06_top.a (f : F) (hl : f.offs.length ≤ 1000000) : Ans ctx law06_top.n [.ag (cF f)] (.i .i64 (topF f)) := by
  refine ans law06_top.f ?_
  simp +contextual (disch := omega) [Nat.add_assoc, Int.add_assoc, if_pos, if_neg, -Int.not_lt, -Int.not_le, -Nat.not_lt, -Nat.not_le, -List.length_flatMap, law06_top.c]
  refine for_w (fun i e m x => e 1 = .p 0 0 ∧ m 0 = some (.cells (cF f) false) ∧ e 4 = .i .i64 i ∧ e 3 = .i .i64 ((f.offs.take i).foldl max (-1))) f.offs.length ?_ ?_ ?_
  · simp +contextual (disch := omega) [Nat.add_assoc, Int.add_assoc, if_pos, if_neg, -Int.not_lt, -Int.not_le, -Nat.not_lt, -Nat.not_le, -List.length_flatMap]
  · rintro i e m x hi ⟨g1, y0, g4, g3⟩
    simp +contextual (disch := omega) [Nat.add_assoc, Int.add_assoc, if_pos, if_neg, -Int.not_lt, -Int.not_le, -Nat.not_lt, -Nat.not_le, -List.length_flatMap, law06_top.b1, g1, y0, g4, g3, hi, take_fold]
  · rintro e m x ⟨g1, y0, g4, g3⟩
    rw [List.take_length] at g3
    simp +contextual (disch := omega) [Nat.add_assoc, Int.add_assoc, if_pos, if_neg, -Int.not_lt, -Int.not_le, -Nat.not_lt, -Nat.not_le, -List.length_flatMap, law06_top.b1, g1, y0, g4, g3, topF]
theorem and3 {a : Int} : bin .and (.i .i64 a) (.i .i64 3) = some (.i .i64 (a % 4)) := by
  simp only [bin, binI, if_true]
  congr 2
  have h1 : (BitVec.ofInt 64 a &&& BitVec.ofInt 64 3).toNat = (a % 4).toNat := by
    rw [BitVec.toNat_and]
    have e2 : (BitVec.ofInt 64 3).toNat = 2 ^ 2 - 1 := by decide
    rw [e2, Nat.and_two_pow_sub_one_eq_mod, BitVec.toNat_ofInt]
    have : (2 : Nat) ^ 2 = 4 := by decide
    have : (2 : Nat) ^ 64 = 18446744073709551616 := by decide
    omega
  have e3 : Go.IntKind.i64.bits = 64 := rfl
  rw [e3, h1, i64w (by omega) (by omega)]
  omega
theorem flatI_take (q : List Int) (n : Nat) : (q.flatMap cI).take n = (q.take n).flatMap cI := by rw [flatI_map, flatI_map, List.map_take]
set_option maxRecDepth 20000 in
set_option maxHeartbeats 1000000 in
theorem law06_FlatSpoilt.a (l v : List Nat) (hl : Byt l) (hv : Byt v) (ll : l.length ≤ 9223372036854775807) (lv : v.length ≤ 9223372036854775807) (z how : Nat) (hz : z < 256) (hh : how < 256) (n : Int) (hn : -9223372036854775808 ≤ n ∧ n < 9223372036854775808) :
    Ans ctx law06_FlatSpoilt.n [sV cU l, .i .u8 z, .i .u8 how, .i .i64 n, sV cU v] (.b true) := by
  refine ans law06_FlatSpoilt.f ?_
  have q1 : Ans ctx law02_Made.n [sV cU l, .i .i64 4, .i .i64 0] (.ag (cL (madeS l 4 0))) := law02_Made.a l hl 4 0 (by omega) (by omega)
  have oa := madeS_ok l 4 0 (by omega) (by omega)
  obtain ⟨ea, la⟩ := flat_made l (caseB z) rfl
  have hC := law06_Case.a z hz
  have h2 := ref06_Flatten.a (madeS l 4 0) oa (caseB z) (by simp [caseB])
  rw [ea] at h2
  generalize madeS l 4 0 = A at *
  generalize caseB z = Z at *
  generalize flattenF A Z = X at *
  have hcl : (X.offs.flatMap cI).length = 4 := by rw [flatI_len, la]
  simp +contextual (disch := omega) [Nat.add_assoc, Int.add_assoc, if_pos, if_neg, -Int.not_lt, -Int.not_le, -Nat.not_lt, -Nat.not_le, -List.length_flatMap, law06_FlatSpoilt.c, ansK q1, ansK hC, ansK h2, la, hcl]
  rw [CallX_op (by rfl)]
  refine openg_w rfl rfl (.inl rfl) ?_
  have hfv : ctx.frz law02_Values.n = false := rfl
  rw [hfv]
  refine law02_Values.w v hv lv 4 (by omega) ?_
  intro m1 x1 hx1 hmv hm1
  have hvl := valuesS_len v 4
  have y6 : m1 6 = some (.cells (cF X) false) := by rw [hm1 6 (by omega)]; simp +contextual (disch := omega) [Nat.add_assoc, Int.add_assoc, if_pos, if_neg, -Int.not_lt, -Int.not_le, -Nat.not_lt, -Nat.not_le, -List.length_flatMap]
  have y13 : m1 13 = some (.cells (X.offs.flatMap cI) false) := by rw [hm1 13 (by omega)]; simp +contextual (disch := omega) [Nat.add_assoc, Int.add_assoc, if_pos, if_neg, -Int.not_lt, -Int.not_le, -Nat.not_lt, -Nat.not_le, -List.length_flatMap]
  have y15 : m1 15 = some (.cells [.i .i64 X.cst, .ms 13 0 4 1] false) := by rw [hm1 15 (by omega)]; simp +contextual (disch := omega) [Nat.add_assoc, Int.add_assoc, if_pos, if_neg, -Int.not_lt, -Int.not_le, -Nat.not_lt, -Nat.not_le, -List.length_flatMap]
  have y20 : m1 20 = some (.cells ((valuesS v 4).flatMap cI) false) := hmv
  clear hm1 hmv
  obtain ⟨P, hP⟩ : ∃ P, P = valuesS v 4 := ⟨_, rfl⟩
  rw [← hP] at y20 hvl
  have hcp : (P.flatMap cI).length = 4 := by rw [flatI_len, hvl]
  have hT : ∀ (Y : F) (Q : List Int), Y.offs.length ≤ 4 → Q.length = 4 → Ans ctx law06_told.n [.ag (cF Y), .ag (cF X), sV cI Q] (.b true) ∧ Ans ctx law06_told.n [.ag (cF X), .ag (cF Y), sV cI Q] (.b true) := fun Y Q h1 h2 => ⟨law06_told.a Y X Q (by omega) (by omega) (by omega), law06_told.a X Y Q (by omega) (by omega) (by omega)⟩
  obtain ⟨r, hr⟩ : ∃ r, r = how % 5 := ⟨_, rfl⟩
  have er : (how : Int) % 5 = (r : Nat) := by rw [hr]; rfl
  have hcs : r = 0 ∨ r = 1 ∨ r = 2 ∨ r = 3 ∨ r = 4 := by omega
  obtain ⟨j, hj⟩ : ∃ j, j = how / 5 % 4 := ⟨_, rfl⟩
  have ej : (how : Int) / 5 % 4 = (j : Nat) := by rw [hj]; rfl
  have hj4 : j < 4 := by omega
  have hxj : X.offs.length = 4 := la
  clear hr
  rcases hcs with rfl | rfl | rfl | rfl | rfl
  · simp +contextual (disch := omega) [Nat.add_assoc, Int.add_assoc, if_pos, if_neg, -Int.not_lt, -Int.not_le, -Nat.not_lt, -Nat.not_le, -List.length_flatMap, y6, y13, y15, y20, er, Int.tmod_eq_emod_of_nonneg]
    generalize hMM : Sto.set m1 15 _ = MM
    have g6 : MM 6 = some (.cells (cF X) false) := by rw [← hMM]; simp +contextual (disch := omega) [Nat.add_assoc, Int.add_assoc, if_pos, if_neg, -Int.not_lt, -Int.not_le, -Nat.not_lt, -Nat.not_le, -List.length_flatMap, y6]
    have g13 : MM 13 = some (.cells (X.offs.flatMap cI) false) := by rw [← hMM]; simp +contextual (disch := omega) [Nat.add_assoc, Int.add_assoc, if_pos, if_neg, -Int.not_lt, -Int.not_le, -Nat.not_lt, -Nat.not_le, -List.length_flatMap, y13]
    have g15 : MM 15 = some (.cells [.i .i64 (n), .ms 13 0 4 1] false) := by rw [← hMM]; simp +contextual (disch := omega) [Nat.add_assoc, Int.add_assoc, if_pos, if_neg, -Int.not_lt, -Int.not_le, -Nat.not_lt, -Nat.not_le, -List.length_flatMap, y15]
    have g20 : MM 20 = some (.cells ((P).flatMap cI) false) := by rw [← hMM]; simp +contextual (disch := omega) [Nat.add_assoc, Int.add_assoc, if_pos, if_neg, -Int.not_lt, -Int.not_le, -Nat.not_lt, -Nat.not_le, -List.length_flatMap, y20]
    obtain ⟨t1, t2⟩ := hT ⟨n, X.offs⟩ (P) (by first | omega | (simp; omega)) (by simp [hvl])
    simp only [cF, sV] at t1 t2
    have l1 : (X.offs).length = 4 := by first | omega | (simp; omega)
    have l2 : (P).length = 4 := by simp [hvl]
    have c1 : ((X.offs).flatMap cI).length = (X.offs).length := flatI_len _
    have c2 : ((P).flatMap cI).length = (P).length := flatI_len _
    rw [l2] at c2
    have k1 := flatI_all l1.symm
    have k2 := flatI_all l2.symm
    simp only [la, l1, l2] at t1 t2
    have c3 : (X.offs.flatMap cI).length = 4 := hcl
    have k3 : (X.offs.flatMap cI).take 4 = (X.offs).flatMap cI := k1
    simp +contextual (disch := omega) [Nat.add_assoc, Int.add_assoc, if_pos, if_neg, -Int.not_lt, -Int.not_le, -Nat.not_lt, -Nat.not_le, -List.length_flatMap, ansK law06_awake.a, g6, g13, g15, g20, cF, sV, la, c2, c3, k2, k3, ansK t1, ansK t2]
  · simp +contextual (disch := omega) [Nat.add_assoc, Int.add_assoc, if_pos, if_neg, -Int.not_lt, -Int.not_le, -Nat.not_lt, -Nat.not_le, -List.length_flatMap, y6, y13, y15, y20, er, hcl, hj4, ej, Int.tmod_eq_emod_of_nonneg, Int.tdiv_eq_ediv_of_nonneg]
    rw [flatI_set (by omega)]
    generalize hMM : Sto.set m1 13 _ = MM
    have g6 : MM 6 = some (.cells (cF X) false) := by rw [← hMM]; simp +contextual (disch := omega) [Nat.add_assoc, Int.add_assoc, if_pos, if_neg, -Int.not_lt, -Int.not_le, -Nat.not_lt, -Nat.not_le, -List.length_flatMap, y6]
    have g13 : MM 13 = some (.cells ((X.offs.set j n).flatMap cI) false) := by rw [← hMM]; simp +contextual (disch := omega) [Nat.add_assoc, Int.add_assoc, if_pos, if_neg, -Int.not_lt, -Int.not_le, -Nat.not_lt, -Nat.not_le, -List.length_flatMap, y13]
    have g15 : MM 15 = some (.cells [.i .i64 (X.cst), .ms 13 0 4 1] false) := by rw [← hMM]; simp +contextual (disch := omega) [Nat.add_assoc, Int.add_assoc, if_pos, if_neg, -Int.not_lt, -Int.not_le, -Nat.not_lt, -Nat.not_le, -List.length_flatMap, y15]
    have g20 : MM 20 = some (.cells ((P).flatMap cI) false) := by rw [← hMM]; simp +contextual (disch := omega) [Nat.add_assoc, Int.add_assoc, if_pos, if_neg, -Int.not_lt, -Int.not_le, -Nat.not_lt, -Nat.not_le, -List.length_flatMap, y20]
    obtain ⟨t1, t2⟩ := hT ⟨X.cst, X.offs.set j n⟩ (P) (by first | omega | (simp; omega)) (by simp [hvl])
    simp only [cF, sV] at t1 t2
    have l1 : (X.offs.set j n).length = 4 := by first | omega | (simp; omega)
    have l2 : (P).length = 4 := by simp [hvl]
    have c1 : ((X.offs.set j n).flatMap cI).length = (X.offs.set j n).length := flatI_len _
    have c2 : ((P).flatMap cI).length = (P).length := flatI_len _
    rw [l2] at c2
    have k1 := flatI_all l1.symm
    have k2 := flatI_all l2.symm
    simp only [la, l1, l2] at t1 t2
    have c3 : ((X.offs.set j n).flatMap cI).length = 4 := by rw [flatI_len]; exact l1
    have k3 : ((X.offs.set j n).flatMap cI).take 4 = (X.offs.set j n).flatMap cI := k1
    simp +contextual (disch := omega) [Nat.add_assoc, Int.add_assoc, if_pos, if_neg, -Int.not_lt, -Int.not_le, -Nat.not_lt, -Nat.not_le, -List.length_flatMap, ansK law06_awake.a, g6, g13, g15, g20, cF, sV, la, c2, c3, k2, k3, ansK t1, ansK t2]
  · simp +contextual (disch := omega) [Nat.add_assoc, Int.add_assoc, if_pos, if_neg, -Int.not_lt, -Int.not_le, -Nat.not_lt, -Nat.not_le, -List.length_flatMap, y6, y13, y15, y20, er, hcl, Int.tmod_eq_emod_of_nonneg]
    generalize hMM : Sto.set m1 15 _ = MM
    have g6 : MM 6 = some (.cells (cF X) false) := by rw [← hMM]; simp +contextual (disch := omega) [Nat.add_assoc, Int.add_assoc, if_pos, if_neg, -Int.not_lt, -Int.not_le, -Nat.not_lt, -Nat.not_le, -List.length_flatMap, y6]
    have g13 : MM 13 = some (.cells (X.offs.flatMap cI) false) := by rw [← hMM]; simp +contextual (disch := omega) [Nat.add_assoc, Int.add_assoc, if_pos, if_neg, -Int.not_lt, -Int.not_le, -Nat.not_lt, -Nat.not_le, -List.length_flatMap, y13]
    have g15 : MM 15 = some (.cells [.i .i64 (X.cst), .ms 13 0 3 1] false) := by rw [← hMM]; simp +contextual (disch := omega) [Nat.add_assoc, Int.add_assoc, if_pos, if_neg, -Int.not_lt, -Int.not_le, -Nat.not_lt, -Nat.not_le, -List.length_flatMap, y15]
    have g20 : MM 20 = some (.cells ((P).flatMap cI) false) := by rw [← hMM]; simp +contextual (disch := omega) [Nat.add_assoc, Int.add_assoc, if_pos, if_neg, -Int.not_lt, -Int.not_le, -Nat.not_lt, -Nat.not_le, -List.length_flatMap, y20]
    obtain ⟨t1, t2⟩ := hT ⟨X.cst, X.offs.take 3⟩ (P) (by first | omega | (simp; omega)) (by simp [hvl])
    simp only [cF, sV] at t1 t2
    have l1 : (X.offs.take 3).length = 3 := by first | omega | (simp; omega)
    have l2 : (P).length = 4 := by simp [hvl]
    have c1 : ((X.offs.take 3).flatMap cI).length = (X.offs.take 3).length := flatI_len _
    have c2 : ((P).flatMap cI).length = (P).length := flatI_len _
    rw [l2] at c2
    have k1 := flatI_all l1.symm
    have k2 := flatI_all l2.symm
    simp only [la, l1, l2] at t1 t2
    have c3 : (X.offs.flatMap cI).length = 4 := hcl
    have k3 : (X.offs.flatMap cI).take 3 = (X.offs.take 3).flatMap cI := flatI_take X.offs 3
    simp +contextual (disch := omega) [Nat.add_assoc, Int.add_assoc, if_pos, if_neg, -Int.not_lt, -Int.not_le, -Nat.not_lt, -Nat.not_le, -List.length_flatMap, ansK law06_awake.a, g6, g13, g15, g20, cF, sV, la, c2, c3, k2, k3, ansK t1, ansK t2]
  · simp +contextual (disch := omega) [Nat.add_assoc, Int.add_assoc, if_pos, if_neg, -Int.not_lt, -Int.not_le, -Nat.not_lt, -Nat.not_le, -List.length_flatMap, y6, y13, y15, y20, er, hcp, Int.tmod_eq_emod_of_nonneg]
    have e1 : (P.flatMap cI).take 1 ++ V.i .i64 n :: (P.flatMap cI).drop 2 = (P.set 1 n).flatMap cI := flatI_set (l := P) (j := 1) (v := n) (by omega)
    rw [e1]
    generalize hMM : Sto.set m1 20 _ = MM
    have g6 : MM 6 = some (.cells (cF X) false) := by rw [← hMM]; simp +contextual (disch := omega) [Nat.add_assoc, Int.add_assoc, if_pos, if_neg, -Int.not_lt, -Int.not_le, -Nat.not_lt, -Nat.not_le, -List.length_flatMap, y6]
    have g13 : MM 13 = some (.cells (X.offs.flatMap cI) false) := by rw [← hMM]; simp +contextual (disch := omega) [Nat.add_assoc, Int.add_assoc, if_pos, if_neg, -Int.not_lt, -Int.not_le, -Nat.not_lt, -Nat.not_le, -List.length_flatMap, y13]
    have g15 : MM 15 = some (.cells [.i .i64 (X.cst), .ms 13 0 4 1] false) := by rw [← hMM]; simp +contextual (disch := omega) [Nat.add_assoc, Int.add_assoc, if_pos, if_neg, -Int.not_lt, -Int.not_le, -Nat.not_lt, -Nat.not_le, -List.length_flatMap, y15]
    have g20 : MM 20 = some (.cells ((P.set 1 n).flatMap cI) false) := by rw [← hMM]; simp +contextual (disch := omega) [Nat.add_assoc, Int.add_assoc, if_pos, if_neg, -Int.not_lt, -Int.not_le, -Nat.not_lt, -Nat.not_le, -List.length_flatMap, y20]
    obtain ⟨t1, t2⟩ := hT ⟨X.cst, X.offs⟩ (P.set 1 n) (by first | omega | (simp; omega)) (by simp [hvl])
    simp only [cF, sV] at t1 t2
    have l1 : (X.offs).length = 4 := by first | omega | (simp; omega)
    have l2 : (P.set 1 n).length = 4 := by simp [hvl]
    have c1 : ((X.offs).flatMap cI).length = (X.offs).length := flatI_len _
    have c2 : ((P.set 1 n).flatMap cI).length = (P.set 1 n).length := flatI_len _
    rw [l2] at c2
    have k1 := flatI_all l1.symm
    have k2 := flatI_all l2.symm
    simp only [la, l1, l2] at t1 t2
    have c3 : (X.offs.flatMap cI).length = 4 := hcl
    have k3 : (X.offs.flatMap cI).take 4 = (X.offs).flatMap cI := k1
    simp +contextual (disch := omega) [Nat.add_assoc, Int.add_assoc, if_pos, if_neg, -Int.not_lt, -Int.not_le, -Nat.not_lt, -Nat.not_le, -List.length_flatMap, ansK law06_awake.a, g6, g13, g15, g20, cF, sV, la, c2, c3, k2, k3, ansK t1, ansK t2]
  · have hTop : Ans ctx law06_top.n [.ag [.i .i64 X.cst, .sl (X.offs.flatMap cI) 4]] (.i .i64 (topF X)) := by
      have := law06_top.a X (by omega)
      simp only [cF, sV, la] at this
      exact this
    have hk4 := flatI_all hxj.symm
    simp +contextual (disch := omega) [Nat.add_assoc, Int.add_assoc, if_pos, if_neg, -Int.not_lt, -Int.not_le, -Nat.not_lt, -Nat.not_le, -List.length_flatMap, y6, y13, y15, y20, er, hcl, hk4, ansK hTop, and3, Int.tmod_eq_emod_of_nonneg]
    generalize Go.IntKind.i64.wrap (topF X + n % 4) = W
    generalize hMM : Sto.set m1 15 _ = MM
    have g6 : MM 6 = some (.cells (cF X) false) := by rw [← hMM]; simp +contextual (disch := omega) [Nat.add_assoc, Int.add_assoc, if_pos, if_neg, -Int.not_lt, -Int.not_le, -Nat.not_lt, -Nat.not_le, -List.length_flatMap, y6]
    have g13 : MM 13 = some (.cells (X.offs.flatMap cI) false) := by rw [← hMM]; simp +contextual (disch := omega) [Nat.add_assoc, Int.add_assoc, if_pos, if_neg, -Int.not_lt, -Int.not_le, -Nat.not_lt, -Nat.not_le, -List.length_flatMap, y13]
    have g15 : MM 15 = some (.cells [.i .i64 W, .ms 13 0 4 1] false) := by rw [← hMM]; simp +contextual (disch := omega) [Nat.add_assoc, Int.add_assoc, if_pos, if_neg, -Int.not_lt, -Int.not_le, -Nat.not_lt, -Nat.not_le, -List.length_flatMap, y15]
    have g20 : MM 20 = some (.cells ((P).flatMap cI) false) := by rw [← hMM]; simp +contextual (disch := omega) [Nat.add_assoc, Int.add_assoc, if_pos, if_neg, -Int.not_lt, -Int.not_le, -Nat.not_lt, -Nat.not_le, -List.length_flatMap, y20]
    obtain ⟨t1, t2⟩ := hT ⟨W, X.offs⟩ (P) (by first | omega | (simp; omega)) (by simp [hvl])
    simp only [cF, sV] at t1 t2
    have l1 : (X.offs).length = 4 := by first | omega | (simp; omega)
    have l2 : (P).length = 4 := by simp [hvl]
    have c1 : ((X.offs).flatMap cI).length = (X.offs).length := flatI_len _
    have c2 : ((P).flatMap cI).length = (P).length := flatI_len _
    rw [l2] at c2
    have k1 := flatI_all l1.symm
    have k2 := flatI_all l2.symm
    simp only [la, l1, l2] at t1 t2
    have c3 : (X.offs.flatMap cI).length = 4 := hcl
    have k3 : (X.offs.flatMap cI).take 4 = (X.offs).flatMap cI := k1
    simp +contextual (disch := omega) [Nat.add_assoc, Int.add_assoc, if_pos, if_neg, -Int.not_lt, -Int.not_le, -Nat.not_lt, -Nat.not_le, -List.length_flatMap, ansK law06_awake.a, g6, g13, g15, g20, cF, sV, la, c2, c3, k2, k3, ansK t1, ansK t2]
end Pi
