/- Part of the proof: contracts of the program's functions. -/
import Derived.Test.YtglibfclhecbkaaC02k
set_option linter.unusedSimpArgs false
set_option linter.unusedVariables false
namespace Pi
theorem cI_get (o : List Int) (i : Nat) (h : i < o.length) : (o.flatMap cI)[i]'(by rw [show (o.flatMap cI).length = o.length by simpa using flat_len (f := cI) (k := 1) o]; exact h) = V.i .i64 o[i] := by
  have hm : o.flatMap cI = o.map fun a => V.i .i64 a := by
    clear h
    induction o with
    | nil => rfl
    | cons a r ih => rw [List.flatMap_cons, ih]; rfl
  simp [hm]
theorem madeS_right (l : List Nat) (p q : Nat) : rightS (madeS l p q) p q 5 = true := by
  have := mkS_right l p q 4 0
  simpa [madeS] using this
theorem madeS_sz (l : List Nat) (p q : Nat) : szL (madeS l p q) ≤ 31 := by
  have := mkS_sz l p q 4 0
  simp at this
  unfold madeS
  omega
theorem RightS_of {l : L} {p q : Nat} (hp : p ≤ 5) (hq : q ≤ 10) (hz : szL l ≤ 100) (h : rightS l p q 12 = true) : RightS l p q = true := by
  unfold RightS
  have := nodesS_le l 101
  rw [if_neg (by omega)]
  simp [h]
  omega
theorem evalS_ok {l : L} {ps ms : List Int} {p q : Nat} (h1 : ps.length = p) (h2 : ms.length = q) (h3 : RightS l p q = true) (hp : Nats ps) (hm : Nats ms) : evalS l ps ms = .tu [.i .i64 (lvS l ps ms), .i .i64 0] := by
  unfold evalS
  subst h1 h2
  rw [nats_iff.2 hp, nats_iff.2 hm, h3]
  simp
theorem nats_small {l : List Int} {M : Int} (hM : M ≤ 1099511627776) (h : ∀ j, 0 ≤ l.getD j 0 ∧ l.getD j 0 ≤ M) : Nats l := by
  intro a ha
  obtain ⟨i, hi, rfl⟩ := List.getElem_of_mem ha
  have := h i
  simp [hi] at this
  omega
theorem valuesS_small (l : List Nat) (many : Nat) : ∀ j, 0 ≤ (valuesS l many).getD j 0 ∧ (valuesS l many).getD j 0 ≤ 8 := by
  intro j
  by_cases h : j < many
  · simp [valuesS, h]; omega
  · simp [valuesS, List.getElem?_eq_none, h]
theorem max_facts (A B : L) (P Q : List Int) (ha : rightS A 3 2 5 = true) (hb : rightS B 3 2 5 = true) (za : szL A ≤ 31) (zb : szL B ≤ 31) :
    rightS (.mk 3 0 [A, B]) 3 2 12 = true ∧ szL (.mk 3 0 [A, B]) ≤ 100 ∧ lvS (.mk 3 0 [A, B]) P Q = max (lvS A P Q) (lvS B P Q) := by
  refine ⟨?_, ?_, ?_⟩
  · rw [rightS_eq]
    have := rightS_up A 3 2 5 11 (by omega) ha
    have := rightS_up B 3 2 5 11 (by omega) hb
    simp_all [kidsS, namedS, L.kids, L.kind, L.n]
  · simp [szL, szLs]; omega
  · rw [lvS_eq]; simp [valK, L.kids, L.kind]
theorem succ_facts (A : L) (P Q : List Int) (ha : rightS A 3 2 5 = true) (za : szL A ≤ 31) :
    rightS (.mk 2 0 [A]) 3 2 12 = true ∧ szL (.mk 2 0 [A]) ≤ 100 ∧ lvS (.mk 2 0 [A]) P Q = lvS A P Q + 1 := by
  refine ⟨?_, ?_, ?_⟩
  · rw [rightS_eq]
    have := rightS_up A 3 2 5 11 (by omega) ha
    simp_all [kidsS, namedS, L.kids, L.kind, L.n]
  · simp [szL, szLs]; omega
  · rw [lvS_eq]; simp [valK, L.kids, L.kind]
set_option maxRecDepth 20000 in
set_option maxHeartbeats 2000000 in
theorem law02_LevelMore.a (l k v w : List Nat) (hl : Byt l) (hk : Byt k) (hv : Byt v) (hw : Byt w) (ll : l.length ≤ 9223372036854775807) (lk : k.length ≤ 9223372036854775807) (lv : v.length ≤ 9223372036854775807) (lw : w.length ≤ 9223372036854775807) :
    Ans ctx law02_LevelMore.n [sV cU l, sV cU k, sV cU v, sV cU w] (.b true) := by
  refine ans law02_LevelMore.f ?_
  have ma := madeS_ok l 3 2 (by omega) (by omega)
  have mb := madeS_ok k 3 2 (by omega) (by omega)
  have ra : rightS (madeS l 3 2) 3 2 5 = true := madeS_right l 3 2
  have rb : rightS (madeS k 3 2) 3 2 5 = true := madeS_right k 3 2
  have za := madeS_sz l 3 2
  have zb := madeS_sz k 3 2
  have hA : Ans ctx law02_Made.n [sV cU l, .i .i64 3, .i .i64 2] (.ag (cL (madeS l 3 2))) := law02_Made.a l hl 3 2 (by omega) (by omega)
  have hB : Ans ctx law02_Made.n [sV cU k, .i .i64 3, .i .i64 2] (.ag (cL (madeS k 3 2))) := law02_Made.a k hk 3 2 (by omega) (by omega)
  generalize madeS l 3 2 = A at hA ma ra za
  generalize madeS k 3 2 = B at hB mb rb zb
  simp +contextual (disch := omega) [Nat.add_assoc, Int.add_assoc, if_pos, if_neg, -Int.not_lt, -Int.not_le, -Nat.not_lt, -Nat.not_le, -List.length_flatMap, law02_LevelMore.c, ansK hA, ansK hB, ansK law02_awake.a]
  refine values_w v hv lv 3 (by omega) ?_
  intro a1 m1 x1 h1 h2 h3 h4
  have hp1 := valuesS_len v 3
  have hp2 := valuesS_small v 3
  generalize valuesS v 3 = P at h3 hp1 hp2
  simp +contextual (disch := omega) [Nat.add_assoc, Int.add_assoc, if_pos, if_neg, -Int.not_lt, -Int.not_le, -Nat.not_lt, -Nat.not_le, -List.length_flatMap]
  refine values_w w hw lw 2 (by omega) ?_
  intro a2 m2 x2 h5 h6 h7 h8
  have hq1 := valuesS_len w 2
  have hq2 := valuesS_small w 2
  generalize valuesS w 2 = Q at h7 hq1 hq2
  have m16 := (h8 6 (by omega)).trans (h4 6 (by omega))
  have m17 := (h8 7 (by omega)).trans (h4 7 (by omega))
  have m1a := (h8 a1 (by omega)).trans h3
  simp (disch := omega) at m16 m17
  have t3 : ∀ l : List Int, l.length = 3 → (l.flatMap cI).take 3 = l.flatMap cI := fun l h => by have := flat_takeall (f := cI) (k := 1) l; rwa [h] at this
  have t2 : ∀ l : List Int, l.length = 2 → (l.flatMap cI).take 2 = l.flatMap cI := fun l h => by have := flat_takeall (f := cI) (k := 1) l; rwa [h] at this
  simp +contextual (disch := omega) [Nat.add_assoc, Int.add_assoc, if_pos, if_neg, -Int.not_lt, -Int.not_le, -Nat.not_lt, -Nat.not_le, -List.length_flatMap, h7, hp1, hq1, m1a, t3 _ hp1]
  refine for_w (fun i e m x => e 10 = .p 6 0 ∧ e 11 = .p 7 0 ∧ e 3 = sV cU w ∧ e 14 = .ms (x2 + 3) 0 3 1 ∧ e 12 = .ms a1 0 3 1 ∧ e 13 = .ms a2 0 2 1 ∧ e 15 = .i .i64 i ∧ e 9 = .b true ∧ x2 + 3 < x ∧ m 6 = some (.cells (cL A) false) ∧ m 7 = some (.cells (cL B) false) ∧ m a1 = some (.cells (P.flatMap cI) false) ∧ m a2 = some (.cells (Q.flatMap cI) false) ∧
    ∃ o : List Int, m (x2 + 3) = some (.cells (o.flatMap cI) false) ∧ o.length = 3 ∧ (∀ j, P.getD j 0 ≤ o.getD j 0 ∧ o.getD j 0 ≤ (if j < i then 11 else 8))) 3 ?_ ?_ ?_
  · have hle : ∀ j, P.getD j 0 ≤ 8 := fun j => (hp2 j).2
    simp +contextual (disch := omega) [Nat.add_assoc, Int.add_assoc, if_pos, if_neg, -Int.not_lt, -Int.not_le, -Nat.not_lt, -Nat.not_le, -List.length_flatMap, m16, m17, m1a, h7]
    exact ⟨P, rfl, hp1, fun j => ⟨Int.le_refl _, by simpa using hle j⟩⟩
  · rintro i e m x hi ⟨g1, g2, g3, g4, g5, g6, g7, g8, g9, g10, g11, g12, g13, o, g14, g15, g16⟩
    have hi3 : i < o.length := by omega
    have hfl : (o.flatMap cI).length = o.length := by simpa using flat_len (f := cI) (k := 1) o
    have ho := (g16 i).1
    have ho' := (g16 i).2
    have hp0 := (hp2 i).1
    rw [if_neg (by omega)] at ho'
    have hoi : o.getD i 0 = o[i] := by simp [hi3]
    rw [hoi] at ho ho'
    by_cases hwl : i < w.length
    · have hbi := hw.at hwl
      have hfe : (o.flatMap cI)[i]'(by omega) = V.i .i64 o[i] := cI_get o i hi3
      have hsp := splice_cI o i (o[i] + (w[i] : Int) % 4) (by omega)
      simp only [splice, List.length_cons, List.length_nil, Nat.zero_add] at hsp
      simp +contextual (disch := omega) [Nat.add_assoc, Int.add_assoc, if_pos, if_neg, -Int.not_lt, -Int.not_le, -Nat.not_lt, -Nat.not_le, -List.length_flatMap, law02_LevelMore.b1, g1, g2, g3, g4, g5, g6, g7, g8, g9, g10, g11, g12, g13, g14, g15, hwl, hfe, hsp, hfl, Int.tmod_eq_emod_of_nonneg]
      refine ⟨by omega, o.set i (o[i] + (w[i] : Int) % 4), rfl, by simp [g15], fun j => ?_⟩
      have h := g16 j
      by_cases hj : j = i
      · subst hj
        simp [hi3] at *
        omega
      · simp only [List.getD_eq_getElem?_getD] at h
        rw [List.getElem?_set_ne (by omega)]
        split at h <;> split <;> omega
    · simp +contextual (disch := omega) [Nat.add_assoc, Int.add_assoc, if_pos, if_neg, -Int.not_lt, -Int.not_le, -Nat.not_lt, -Nat.not_le, -List.length_flatMap, law02_LevelMore.b1, g1, g2, g3, g4, g5, g6, g7, g8, g9, g10, g11, g12, g13, g14, g15, hwl]
      refine ⟨by omega, o, rfl, g15, fun j => ?_⟩
      have h := g16 j
      simp only [List.getD_eq_getElem?_getD] at h
      split at h <;> split <;> omega
  · rintro e m x ⟨g1, g2, g3, g4, g5, g6, g7, g8, g9, g10, g11, g12, g13, o, g14, g15, g16⟩
    have hno : Nats o := nats_small (M := 11) (by omega) (fun j => by
      have := g16 j
      have := hp2 j
      split at * <;> omega)
    have hnP : Nats P := nats_small (M := 8) (by omega) hp2
    have hnQ : Nats Q := nats_small (M := 8) (by omega) hq2
    have uA := rightS_up A 3 2 5 12 (by omega) ra
    obtain ⟨c1, c2, c3⟩ := max_facts A B P Q ra rb za zb
    obtain ⟨d1, d2, d3⟩ := max_facts B A P Q rb ra zb za
    obtain ⟨s1, s2, s3⟩ := succ_facts A P Q ra za
    have e1 := evalS_ok hp1 hq1 (RightS_of (by omega) (by omega) (by omega) uA) hnP hnQ
    have e2 := evalS_ok g15 hq1 (RightS_of (by omega) (by omega) (by omega) uA) hno hnQ
    have e3 := evalS_ok hp1 hq1 (RightS_of (by omega) (by omega) c2 c1) hnP hnQ
    have e4 := evalS_ok hp1 hq1 (RightS_of (by omega) (by omega) d2 d1) hnP hnQ
    have e5 := evalS_ok hp1 hq1 (RightS_of (by omega) (by omega) s2 s1) hnP hnQ
    rw [c3] at e3
    rw [d3] at e4
    rw [s3] at e5
    have lm := lvS_mono A P o Q 3 2 5 (fun j => (g16 j).1) hnP hnQ hno ra
    have lt := lvS_top A 8 (by omega) P Q 3 2 5 hp2 hq2 ra
    have lb := lvS_bd A P Q 3 2 5 hnP hnQ ra
    have mk : ∀ (a b : Int) (ks : List L), (-9223372036854775808 ≤ a ∧ a < 9223372036854775808) → (-9223372036854775808 ≤ b ∧ b < 9223372036854775808) → ks.length ≤ 9223372036854775807 → (∀ x ∈ ks, x.Ok) → (L.mk a b ks).Ok := fun a b ks h1 h2 h3 h4 => .mk h3 h1 h2 h4
    have v1 := level_Eval.a A ma P Q (by omega) (by omega)
    have v2 := level_Eval.a A ma o Q (by omega) (by omega)
    have v3 := level_Eval.a (.mk 3 0 [A, B]) (mk _ _ _ (by omega) (by omega) (by simp) (by simp; exact ⟨ma, mb⟩)) P Q (by omega) (by omega)
    have v4 := level_Eval.a (.mk 3 0 [B, A]) (mk _ _ _ (by omega) (by omega) (by simp) (by simp; exact ⟨mb, ma⟩)) P Q (by omega) (by omega)
    have v5 := level_Eval.a (.mk 2 0 [A]) (mk _ _ _ (by omega) (by omega) (by simp) (by simp; exact ma)) P Q (by omega) (by omega)
    rw [e1] at v1
    rw [e2] at v2
    rw [e3] at v3
    rw [e4] at v4
    rw [e5] at v5
    clear g16 hp2 hq2 ra rb za zb hA hB e1 e2 e3 e4 e5 c1 c2 c3 d1 d2 d3 s1 s2 s3 hno hnP hnQ uA
    have k3 : V.sl (P.flatMap cI) 3 = sV cI P := by rw [sV, hp1]
    have k3' : V.sl (o.flatMap cI) 3 = sV cI o := by rw [sV, g15]
    have k2 : V.sl (Q.flatMap cI) 2 = sV cI Q := by rw [sV, hq1]
    generalize lvS A P Q = z at *
    generalize lvS A o Q = y at *
    generalize lvS B P Q = u at *
    have hmx : max u z = max z u := by omega
    rw [hmx] at v4
    have hzu : z ≤ max z u := by omega
    generalize max z u = t at *
    simp +contextual (disch := omega) [Nat.add_assoc, Int.add_assoc, if_pos, if_neg, -Int.not_lt, -Int.not_le, -Nat.not_lt, -Nat.not_le, -List.length_flatMap, law02_LevelMore.b1, g1, g2, g3, g4, g5, g6, g7, g8, g9, g10, g11, g12, g13, g14, g15, t3 _ hp1, t3 _ g15, t2 _ hq1, k3, k3', k2, ansK v1, ansK v2, ansK v3, ansK v4, ansK v5, lm, hzu]
    omega
end Pi
