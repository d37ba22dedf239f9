/- Contracts: why there is no model (layer 10): the document's Core. -/
import Derived.Test.YtfdkpnckflmcaaaC10c
set_option linter.unusedSimpArgs false
set_option linter.unusedVariables false
namespace Pi
theorem ref_ok {vars : Int} {l : List C} (hl : l.length ≤ 9223372036854775807) (hf : ∀ c ∈ l, c.frm.length ≤ 9223372036854775807) (hr : rightC vars l = true) :
    ∃ m k, Ans ctx ref09_Solve.n [.i .i64 vars, sV cC l] (.tu [sV cI m, .b (!lostC vars.toNat l), .i .i64 k, .i .i64 0]) := by
  have h := ref09_Solve.a vars l hl hf
  rw [solveV, if_pos hr] at h
  exact ⟨_, _, by unfold lostC; rw [Bool.not_not]; exact h⟩
/-- A list in memory, read alone. -/
def Rd (m : Sto) (B : V) (p : List Nat) (x : Nat) : Prop := ∃ a cs ro, B = .ms a 0 p.length 1 ∧ m a = some (.cells cs ro) ∧ Rm cI 1 (intL p) cs ∧ a < x
theorem Rm.get1 {p : List Nat} {cs : List V} (h : Rm cI 1 (intL p) cs) {i : Nat} (hi : i < p.length) : cs[i]? = some (.i .i64 p[i]) := by
  have h1 := h.eq
  have h2 : ((intL p).flatMap cI)[i]? = some (.i .i64 p[i]) := by
    have : (intL p).flatMap cI = p.map fun j : Nat => (.i .i64 j : V) := by
      unfold intL
      clear hi h1 h
      induction p with
      | nil => rfl
      | cons a p ih => simp only [List.map_cons, List.flatMap_cons, ih]; rfl
    rw [this]
    simp [hi]
  rw [← h1, List.getElem?_take] at h2
  split at h2
  · exact h2
  · cases h2
theorem less_take {p : List Nat} {i k : Nat} (hk : k < p.length) : lessL (p.take (k + 1)) i = lessL (p.take k) i ++ if p[k] = i then [] else [p[k]] := by
  unfold lessL
  rw [List.take_succ_eq_append_getElem hk, List.filter_append]
  congr 1
  by_cases h : p[k] = i <;> simp [h]
theorem Bf.rd {m : Sto} {B : V} {p : List Nat} {lo x : Nat} (h : Bf m B cI 1 (intL p) lo x) (hp : p ≠ []) : Rd m B p x := by
  rcases h with ⟨_, h⟩ | ⟨a, cs, h1, h2, h3, h4, h5⟩
  · unfold intL at h
    rw [List.map_eq_nil_iff] at h
    exact absurd h hp
  · exact ⟨a, cs, false, by rw [h1, intL_len], h2, h3, h5⟩
theorem ref10_Core.a (vars : Int) (l : List C) (hl : l.length ≤ 9223372036854775807) (hf : ∀ c ∈ l, c.frm.length ≤ 9223372036854775807) : Ans ctx ref10_Core.n [.i .i64 vars, sV cC l] (coreV vars l) := by
  refine ans ref10_Core.f ?_
  unfold coreV
  cases hr : rightC vars l with
  | false =>
    have h := ref09_Solve.a vars l hl hf
    rw [solveV, if_neg (by rw [hr]; simp)] at h
    simp +contextual (disch := omega) [Nat.add_assoc, Int.add_assoc, if_pos, if_neg, -Int.not_lt, -Int.not_le, -Nat.not_lt, -Nat.not_le, -List.length_flatMap, ref10_Core.c, ansK h]
  | true =>
    obtain ⟨r1, r2, r3, r4⟩ := right_ok hr
    obtain ⟨n, rfl⟩ : ∃ n : Nat, vars = n := ⟨vars.toNat, by omega⟩
    obtain ⟨m0, k0, h⟩ := ref_ok hl hf hr
    simp only [Int.toNat_natCast] at h ⊢
    cases hlo : lostC n l with
    | false =>
      rw [hlo] at h
      simp +contextual (disch := omega) [Nat.add_assoc, Int.add_assoc, if_pos, if_neg, -Int.not_lt, -Int.not_le, -Nat.not_lt, -Nat.not_le, -List.length_flatMap, ref10_Core.c, ansK h]
    | true =>
      rw [hlo] at h
      simp +contextual (disch := omega) [Nat.add_assoc, Int.add_assoc, if_pos, if_neg, -Int.not_lt, -Int.not_le, -Nat.not_lt, -Nat.not_le, -List.length_flatMap, ref10_Core.c, ansK h]
      refine for_w (fun i e m x => e 0 = .i .i64 n ∧ e 1 = sV cC l ∧ e 11 = .i .i64 i ∧ Bf m (e 10) cI 1 (intL (List.range i)) 0 x) l.length ?_ ?_ ?_
      · simp +contextual (disch := omega) [Nat.add_assoc, Int.add_assoc, if_pos, if_neg, -Int.not_lt, -Int.not_le, -Nat.not_lt, -Nat.not_le, -List.length_flatMap]
        exact Bf.nil (f := cI) (k := 1)
      · rintro i e m x hi ⟨g0, g1, g11, g10⟩
        simp +contextual (disch := omega) [Nat.add_assoc, Int.add_assoc, if_pos, if_neg, -Int.not_lt, -Int.not_le, -Nat.not_lt, -Nat.not_le, -List.length_flatMap, ref10_Core.b1, g0, g1, g11, hi]
        refine g10.ap [(i : Int)] (by simp +contextual (disch := omega) [Nat.add_assoc, Int.add_assoc, if_pos, if_neg, -Int.not_lt, -Int.not_le, -Nat.not_lt, -Nat.not_le, -List.length_flatMap]) (by omega) (by omega) rfl rfl (by simp [intL]; omega) ?_
        intro B' ws m2 p0 p1 p2 p3
        simp +contextual (disch := omega) [Nat.add_assoc, Int.add_assoc, if_pos, if_neg, -Int.not_lt, -Int.not_le, -Nat.not_lt, -Nat.not_le, -List.length_flatMap, p0, g0, g1, g11, p1.stor, p1.cells]
        exact p1.to (by rw [List.range_succ, intL_app]; rfl) (by omega)
      · rintro e m x ⟨g0, g1, g11, g10⟩
        have hne : l.length ≠ 0 := by
          intro h0
          rw [List.length_eq_zero_iff] at h0
          rw [h0, lost_nil (by omega)] at hlo
          cases hlo
        simp +contextual (disch := omega) [Nat.add_assoc, Int.add_assoc, if_pos, if_neg, -Int.not_lt, -Int.not_le, -Nat.not_lt, -Nat.not_le, -List.length_flatMap, ref10_Core.b1, g0, g1, g11]
        refine for_w (fun i e m x => ∃ now, now = (List.range i).foldl (stepL n l) (List.range l.length) ∧ now ≠ [] ∧ now.length ≤ l.length ∧ (∀ j ∈ now, j < l.length) ∧ e 0 = .i .i64 n ∧ e 1 = sV cC l ∧ e 12 = .i .i64 i ∧ Rd m (e 10) now x) l.length ?_ ?_ ?_
        · refine ⟨List.range l.length, rfl, by simpa using hne, by simp, fun j hj => List.mem_range.1 hj, ?_⟩
          have hrd := (g10.up (x' := x + 5) (by omega) (fun _ _ _ => rfl)).rd (by simpa using hne)
          simp +contextual (disch := omega) [Nat.add_assoc, Int.add_assoc, if_pos, if_neg, -Int.not_lt, -Int.not_le, -Nat.not_lt, -Nat.not_le, -List.length_flatMap, g0, g1]
          exact hrd
        · rintro i e m x hi ⟨now, hnow, hnn, hnl, hnlt, q0, q1, q12, a, cs, ro, q10, qm, qr, qa⟩
          simp +contextual (disch := omega) [Nat.add_assoc, Int.add_assoc, if_pos, if_neg, -Int.not_lt, -Int.not_le, -Nat.not_lt, -Nat.not_le, -List.length_flatMap, ref10_Core.b3, q0, q1, q10, q12, hi]
          refine for_w (fun k e m' x' => e 0 = .i .i64 n ∧ e 1 = sV cC l ∧ e 10 = .ms a 0 now.length 1 ∧ e 12 = .i .i64 i ∧ e 14 = .i .i64 k ∧ m' a = some (.cells cs ro) ∧ x ≤ x' ∧ Bf m' (e 13) cI 1 (intL (lessL (now.take k) i)) x x') now.length ?_ ?_ ?_
          · simp +contextual (disch := omega) [Nat.add_assoc, Int.add_assoc, if_pos, if_neg, -Int.not_lt, -Int.not_le, -Nat.not_lt, -Nat.not_le, -List.length_flatMap, q0, q1, q10, q12, qm]
            exact Bf.nil (f := cI) (k := 1)
          · rintro k e m' x' hk ⟨p0, p1, p10, p12, p14, pm, px, p13⟩
            have hg := qr.get1 hk
            have hls := less_take (i := i) hk
            have hll : (lessL (now.take k) i).length ≤ k := Nat.le_trans (less_len _ _) (by rw [List.length_take]; omega)
            by_cases he : now[k] = i
            · rw [if_pos he, List.append_nil] at hls
              simp +contextual (disch := omega) [Nat.add_assoc, Int.add_assoc, if_pos, if_neg, -Int.not_lt, -Int.not_le, -Nat.not_lt, -Nat.not_le, -List.length_flatMap, ref10_Core.b2, p0, p1, p10, p12, p14, pm, hk, hg, he]
              exact ⟨by omega, p13.to (by rw [hls]) (by omega)⟩
            · rw [if_neg he] at hls
              have he' : ¬ ((now[k] : Nat) : Int) = (i : Int) := by omega
              simp +contextual (disch := omega) [Nat.add_assoc, Int.add_assoc, if_pos, if_neg, -Int.not_lt, -Int.not_le, -Nat.not_lt, -Nat.not_le, -List.length_flatMap, ref10_Core.b2, p0, p1, p10, p12, p14, pm, hk, hg, he, he']
              refine p13.ap [((now[k] : Nat) : Int)] (by simp +contextual (disch := omega) [Nat.add_assoc, Int.add_assoc, if_pos, if_neg, -Int.not_lt, -Int.not_le, -Nat.not_lt, -Nat.not_le, -List.length_flatMap]) (by omega) (by omega) rfl rfl (by simp [intL]; omega) ?_
              intro B' ws m2 z0 z1 z2 z3
              have z2' := z2 a qa
              simp +contextual (disch := omega) [Nat.add_assoc, Int.add_assoc, if_pos, if_neg, -Int.not_lt, -Int.not_le, -Nat.not_lt, -Nat.not_le, -List.length_flatMap, z0, p0, p1, p10, p12, p14, z1.stor, z1.cells, z2', pm]
              exact ⟨by omega, z1.to (by rw [hls, intL_app]; rfl) (by omega)⟩
          · rintro e m' x' ⟨p0, p1, p10, p12, p14, pm, px, p13⟩
            rw [List.take_length] at p13
            have hst : stepL n l now i = if lostC n (pickC l (lessL now i)) then lessL now i else now := rfl
            have hlt : ∀ j ∈ lessL now i, j < l.length := fun j hj => hnlt j (mem_less.1 hj).1
            have hle : (lessL now i).length ≤ now.length := less_len _ _
            have hrp := right_pick hr hlt (by omega)
            obtain ⟨m1, k1, hS⟩ := ref_ok (l := pickC l (lessL now i)) (by rw [pick_len]; omega) (fun c hc => hf c (pick_mem hlt hc)) hrp
            simp only [Int.toNat_natCast] at hS
            have hso := ref10_some.a l (lessL now i) hl hlt (by omega)
            have hfr : (List.range (i + 1)).foldl (stepL n l) (List.range l.length) = stepL n l now i := by rw [fold_range, ← hnow]
            rcases p13 with ⟨hB, hL⟩ | ⟨b, cs', hB, hm, hR, hb1, hb2⟩
            · have hL' : lessL now i = [] := by
                unfold intL at hL
                exact List.map_eq_nil_iff.1 hL
              rw [hL'] at hS hso hst
              have hln : lostC n (pickC l []) = false := lost_nil (by omega)
              rw [hln] at hS hst
              have hso' : Ans ctx ref10_some.n [sV cC l, .sl [] 0] (sV cC (pickC l [])) := hso
              simp +contextual (disch := omega) [Nat.add_assoc, Int.add_assoc, if_pos, if_neg, -Int.not_lt, -Int.not_le, -Nat.not_lt, -Nat.not_le, -List.length_flatMap, ref10_Core.b2, p0, p1, p10, p12, p14, pm, hB, ansK hso', ansK hS]
              rw [hfr, hst]
              exact ⟨hnn, hnl, hnlt, a, cs, ro, rfl, pm, qr, by omega⟩
            · have hR1 := hR.eq
              have hR2 := hR.le
              have hsv : sV cI (intL (lessL now i)) = .sl ((intL (lessL now i)).flatMap cI) (lessL now i).length := by unfold sV; rw [intL_len]
              rw [intL_len, Nat.mul_one] at hR1 hR2
              rw [intL_len] at hB
              rw [hsv] at hso
              cases hlo2 : lostC n (pickC l (lessL now i)) with
              | false =>
                rw [hlo2] at hS hst
                simp +contextual (disch := omega) [Nat.add_assoc, Int.add_assoc, if_pos, if_neg, -Int.not_lt, -Int.not_le, -Nat.not_lt, -Nat.not_le, -List.length_flatMap, ref10_Core.b2, p0, p1, p10, p12, p14, pm, hB, hm, hR.fz, hR1, hR2, ansK hso, ansK hS]
                rw [hfr, hst]
                exact ⟨hnn, hnl, hnlt, a, cs, ro, rfl, by simp +contextual (disch := omega) [Nat.add_assoc, Int.add_assoc, if_pos, if_neg, -Int.not_lt, -Int.not_le, -Nat.not_lt, -Nat.not_le, -List.length_flatMap, pm], qr, by omega⟩
              | true =>
                rw [hlo2] at hS hst
                simp +contextual (disch := omega) [Nat.add_assoc, Int.add_assoc, if_pos, if_neg, -Int.not_lt, -Int.not_le, -Nat.not_lt, -Nat.not_le, -List.length_flatMap, ref10_Core.b2, p0, p1, p10, p12, p14, pm, hB, hm, hR.fz, hR1, hR2, ansK hso, ansK hS]
                rw [hfr, hst]
                refine ⟨fun h => ?_, by simp only [if_true]; omega, hlt, b, cs', !(sV cC (pickC l (lessL now i))).scal, rfl, by simp +contextual (disch := omega) [Nat.add_assoc, Int.add_assoc, if_pos, if_neg, -Int.not_lt, -Int.not_le, -Nat.not_lt, -Nat.not_le, -List.length_flatMap], hR, by omega⟩
                simp only [if_true] at h
                rw [h] at hlo2
                have := lost_nil (n := n) (by omega)
                unfold pickC at hlo2
                rw [List.map_nil, this] at hlo2
                cases hlo2
        · rintro e m x ⟨now, hnow, hnn, hnl, hnlt, q0, q1, q12, a, cs, ro, q10, qm, qr, qa⟩
          have hR1 := qr.eq
          have hR2 := qr.le
          have hsv : sV cI (intL now) = .sl ((intL now).flatMap cI) now.length := by unfold sV; rw [intL_len]
          rw [intL_len, Nat.mul_one] at hR1 hR2
          simp +contextual (disch := omega) [Nat.add_assoc, Int.add_assoc, if_pos, if_neg, -Int.not_lt, -Int.not_le, -Nat.not_lt, -Nat.not_le, -List.length_flatMap, ref10_Core.b3, q0, q1, q10, q12, qm, qr.fz, hR1, hR2]
          rw [hnow]
          exact ⟨rfl, (intL_len _).symm⟩
end Pi
