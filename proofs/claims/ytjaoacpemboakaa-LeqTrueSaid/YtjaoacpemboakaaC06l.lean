/- Laws of layer 6: what is at most another one is so by any values. -/
import Derived.Test.YtjaoacpemboakaaC06k
set_option linter.unusedSimpArgs false
set_option linter.unusedVariables false
namespace Pi
theorem leqL_iff : ∀ {a b : List Int}, a.length = b.length → (leqL a b = true ↔ ∀ i : Nat, a.getD i (-1) ≤ b.getD i (-1))
  | [], [], _ => by simp [leqL]
  | x :: a, y :: b, h => by
    rw [leqL, Bool.and_eq_true, leqL_iff (by simpa using h), decide_eq_true_eq]
    constructor
    · rintro ⟨h1, h2⟩ i
      cases i with
      | zero => simpa using h1
      | succ i => simpa using h2 i
    · intro h
      exact ⟨by simpa using h 0, fun i => by simpa using h (i + 1)⟩
  | [], _ :: _, h => by simp at h
  | _ :: _, [], h => by simp at h
theorem top_ge {f : F} (i : Nat) : f.offs.getD i (-1) ≤ topF f := by
  by_cases h : i < f.offs.length
  · have e : f.offs.getD i (-1) = f.offs[i] := by simp [h]
    rw [e]
    exact fmax_mem _ _ _ (List.getElem_mem h)
  · have e : f.offs.getD i (-1) = -1 := by simp [List.getElem?_eq_none (by omega : f.offs.length ≤ i)]
    rw [e]
    exact fmax_ge _ _
theorem right_getD {f : F} (h : rightF f = true) (i : Nat) : -1 ≤ f.offs.getD i (-1) := by
  by_cases hi : i < f.offs.length
  · have e : f.offs.getD i (-1) = f.offs[i] := by simp [hi]
    rw [e]
    exact ((right_F h).2.2.1 _ (List.getElem_mem hi)).1
  · have e : f.offs.getD i (-1) = -1 := by simp [List.getElem?_eq_none (by omega : f.offs.length ≤ i)]
    rw [e]; omega
theorem leqF_iff {f g : F} (hf : rightF f = true) (hg : rightF g = true) (hl : f.offs.length = g.offs.length) : leqF f g = true ↔ (∀ i : Nat, f.offs.getD i (-1) ≤ g.offs.getD i (-1)) ∧ f.cst ≤ max g.cst (topF g + 1) := by
  unfold leqF
  rw [hf, hg]
  simp only [Bool.true_and, Bool.and_eq_true, decide_eq_true_eq, hl, true_and, leqL_iff hl]
theorem leqF_refl {f : F} (hf : rightF f = true) : leqF f f = true := (leqF_iff hf hf rfl).2 ⟨fun _ => Int.le_refl _, by omega⟩
theorem leqF_anti {f g : F} (hf : rightF f = true) (hg : rightF g = true) (hl : f.offs.length = g.offs.length) : (leqF f g && leqF g f) = decide (f = g) := by
  rw [Bool.eq_iff_iff, Bool.and_eq_true, leqF_iff hf hg hl, leqF_iff hg hf hl.symm, decide_eq_true_eq]
  constructor
  · rintro ⟨⟨h1, h2⟩, h3, h4⟩
    have ho : f.offs = g.offs := by
      apply List.ext_getElem hl
      intro i q1 q2
      have e1 : f.offs.getD i (-1) = f.offs[i] := by simp [q1]
      have e2 : g.offs.getD i (-1) = g.offs[i] := by simp [q2]
      have := h1 i
      have := h3 i
      omega
    have ht : topF f = topF g := by unfold topF; rw [ho]
    obtain ⟨_, a1, _, a2, a3⟩ := right_F hf
    obtain ⟨_, b1, _, b2, b3⟩ := right_F hg
    have hc : f.cst = g.cst := by rw [ht] at h4 a2 a3; omega
    cases f
    cases g
    simp only at ho hc
    rw [ho, hc]
  · rintro rfl
    exact ⟨⟨fun _ => Int.le_refl _, by omega⟩, fun _ => Int.le_refl _, by omega⟩
/-- What is at most another one is so by any values that are no noughts. -/
theorem leq_vF {f g : F} (hf : rightF f = true) (hg : rightF g = true) (hl : f.offs.length = g.offs.length) (h : leqF f g = true) {p : List Int} (hp : f.offs.length = p.length) (h1 : ∀ i : Nat, i < p.length → 1 ≤ p.getD i 0) : vF f p ≤ vF g p := by
  obtain ⟨q1, q2⟩ := (leqF_iff hf hg hl).1 h
  have hgp : g.offs.length = p.length := hl.symm.trans hp
  have hc := vF_cst hgp
  refine (vF_le hp).2 ⟨?_, fun i hi => ?_⟩
  · by_cases ht : topF g = -1
    · have := (right_F hg).2.1
      omega
    · obtain ⟨i, hi, hil⟩ := top_ne (right_getD hg) ht
      have := vF_at hgp i (by omega)
      have := h1 i (by omega)
      omega
  · have := right_getD hf i
    have := q1 i
    have := vF_at hgp i (by omega)
    omega
def onesP (i : Nat) : List Int := if i < 4 then ([1, 1, 1, 1] : List Int).set i 100 else [1, 1, 1, 1]
theorem ones_at (i j : Nat) (hj : j < 4) : (onesP i).getD j 0 = if i = j then 100 else 1 := by
  unfold onesP
  split
  · rw [set_getD]
    by_cases h : i = j
    · rw [if_pos ⟨h, by simpa using hj⟩, if_pos h]
    · rw [if_neg (by omega), if_neg h]
      have : j = 0 ∨ j = 1 ∨ j = 2 ∨ j = 3 := by omega
      rcases this with rfl | rfl | rfl | rfl <;> rfl
  · rw [if_neg (by omega)]
    have : j = 0 ∨ j = 1 ∨ j = 2 ∨ j = 3 := by omega
    rcases this with rfl | rfl | rfl | rfl <;> rfl
theorem ones_len (i : Nat) : (onesP i).length = 4 := by unfold onesP; split <;> simp
theorem ones_nats (i : Nat) : Nats (onesP i) := by
  intro a ha
  obtain ⟨j, hj, rfl⟩ := List.mem_iff_getElem.1 ha
  have hj4 : j < 4 := by rw [ones_len] at hj; exact hj
  have := ones_at i j hj4
  have e : (onesP i).getD j 0 = (onesP i)[j] := by simp [hj]
  rw [← e, this]
  split <;> omega
/-- What is not at most another one is more by ones, or by ones but for one that is great. -/
theorem not_leq {f g : F} (hf : rightF f = true) (hg : rightF g = true) (l1 : f.offs.length = 4) (l2 : g.offs.length = 4) (b1 : g.cst ≤ 50) (b2 : ∀ i : Nat, g.offs.getD i (-1) ≤ 50) (h : leqF f g = false) : ∃ i, i < 5 ∧ vF g (onesP i) < vF f (onesP i) := by
  have hn : ¬ leqF f g = true := by rw [h]; simp
  rw [leqF_iff hf hg (l1.trans l2.symm)] at hn
  have f4 := fun i => l1.trans (ones_len i).symm
  have g4 := fun i => l2.trans (ones_len i).symm
  have out : ∀ {q : F}, q.offs.length = 4 → ∀ i : Nat, ¬ i < 4 → q.offs.getD i (-1) = -1 := fun {q} hq i hi => by simp [List.getElem?_eq_none (by omega : q.offs.length ≤ i)]
  by_cases hall : ∀ i : Nat, f.offs.getD i (-1) ≤ g.offs.getD i (-1)
  · refine ⟨4, by omega, ?_⟩
    have hc : ¬ f.cst ≤ max g.cst (topF g + 1) := fun hc => hn ⟨hall, hc⟩
    have h1 := vF_cst (f4 4)
    have h2 : vF g (onesP 4) ≤ max g.cst (topF g + 1) := (vF_le (g4 4)).2 ⟨by omega, fun i hi => by
      have hi4 : i < 4 := Classical.byContradiction fun hh => hi (out l2 i hh)
      rw [ones_at 4 i hi4, if_neg (by omega)]
      have := top_ge (f := g) i
      omega⟩
    omega
  · obtain ⟨i, hi⟩ : ∃ i : Nat, ¬ f.offs.getD i (-1) ≤ g.offs.getD i (-1) := Classical.byContradiction fun hh => hall fun i => Classical.byContradiction fun h2 => hh ⟨i, h2⟩
    have hi4 : i < 4 := Classical.byContradiction fun hh => hi (by rw [out l1 i hh, out l2 i hh]; omega)
    refine ⟨i, by omega, ?_⟩
    have hgi := right_getD hg i
    have h1 := vF_at (f4 i) i (by omega)
    rw [ones_at i i hi4, if_pos rfl] at h1
    have h2 : vF g (onesP i) ≤ 99 + f.offs.getD i (-1) := (vF_le (g4 i)).2 ⟨by omega, fun j hj => by
      have hj4 : j < 4 := Classical.byContradiction fun hh => hj (out l2 j hh)
      rw [ones_at i j hj4]
      have := b2 j
      by_cases hij : i = j
      · subst hij
        rw [if_pos rfl]; omega
      · rw [if_neg hij]; omega⟩
    omega
theorem flatten_bd {l : L} {Z : List Bool} (hr : rightS l Z.length 0 12 = true) : (flattenF l Z).cst ≤ 50 ∧ ∀ i : Nat, (flattenF l Z).offs.getD i (-1) ≤ 50 := by
  have hbd := ofS_bd l Z 12 hr
  have hoff : (flattenF l Z).offs = (ofS l Z).offs := by unfold flattenF; split <;> rfl
  refine ⟨?_, fun i => ?_⟩
  · have := hbd.2.1
    unfold flattenF
    split
    · simp only; omega
    · omega
  · rw [hoff]
    have := hbd.getD (by omega) i
    omega
set_option maxRecDepth 20000 in
set_option maxHeartbeats 1000000 in
theorem law06_FlatLeq.a (l k v : List Nat) (hl : Byt l) (hk : Byt k) (hv : Byt v) (ll : l.length ≤ 9223372036854775807) (lk : k.length ≤ 9223372036854775807) (lv : v.length ≤ 9223372036854775807) (z : Nat) (hz : z < 256) :
    Ans ctx law06_FlatLeq.n [sV cU l, sV cU k, .i .u8 z, sV cU v] (.b true) := by
  refine ans law06_FlatLeq.f ?_
  have q1 : Ans ctx law02_Made.n [sV cU l, .i .i64 4, .i .i64 0] (.ag (cL (madeS l 4 0))) := law02_Made.a l hl 4 0 (by omega) (by omega)
  have q2 : Ans ctx law02_Made.n [sV cU k, .i .i64 4, .i .i64 0] (.ag (cL (madeS k 4 0))) := law02_Made.a k hk 4 0 (by omega) (by omega)
  have oa := madeS_ok l 4 0 (by omega) (by omega)
  have ob := madeS_ok k 4 0 (by omega) (by omega)
  obtain ⟨ea, la⟩ := flat_made l (caseB z) rfl
  obtain ⟨eb, lb⟩ := flat_made k (caseB z) rfl
  have hC := law06_Case.a z hz
  have h1 := flat_Flatten.a (madeS l 4 0) oa (caseB z) (by simp [caseB])
  have h2 := flat_Flatten.a (madeS k 4 0) ob (caseB z) (by simp [caseB])
  rw [ea] at h1
  rw [eb] at h2
  have hra : rightS (madeS l 4 0) (caseB z).length 0 12 = true := (RightS_ok (q := 0) (madeR l)).2
  have hrb : rightS (madeS k 4 0) (caseB z).length 0 12 = true := (RightS_ok (q := 0) (madeR k)).2
  have ra := flatten_right (Z := caseB z) (by simp [caseB]) (by omega) hra
  have rb := flatten_right (Z := caseB z) (by simp [caseB]) (by omega) hrb
  obtain ⟨bb1, bb2⟩ := flatten_bd hrb
  generalize madeS l 4 0 = A at *
  generalize madeS k 4 0 = B at *
  generalize caseB z = Z at *
  generalize flattenF A Z = X at *
  generalize flattenF B Z = Y at *
  have hS := ref06_Same.a X Y (by omega)
  have hLr := flat_Leq.a X X (by omega) (by omega)
  rw [leqF_refl ra] at hLr
  have hL1 := flat_Leq.a X Y (by omega) (by omega)
  have hL2 := flat_Leq.a Y X (by omega) (by omega)
  have hanti := leqF_anti ra rb (la.trans lb.symm)
  rw [← hanti] at hS
  have hVa := fun (p : List Int) (hp : p.length = 4) (hN : Nats p) => valueV_ok ra (hp.trans la.symm) hN ▸ flat_Value.a X p (by omega) (by omega)
  have hVb := fun (p : List Int) (hp : p.length = 4) (hN : Nats p) => valueV_ok rb (hp.trans lb.symm) hN ▸ flat_Value.a Y p (by omega) (by omega)
  cases hc : leqF X Y with
  | false =>
    rw [hc] at hL1 hS
    simp +contextual (disch := omega) [Nat.add_assoc, Int.add_assoc, if_pos, if_neg, -Int.not_lt, -Int.not_le, -Nat.not_lt, -Nat.not_le, -List.length_flatMap, law06_FlatLeq.c, ansK law06_awake.a, ansK q1, ansK q2, ansK hC, ansK h1, ansK h2, ansK hLr, ansK hL1, ansK hL2, ansK hS]
    obtain ⟨w, hw5, hwl⟩ := not_leq ra rb la lb bb1 bb2 hc
    refine for_w (fun i e m x => e 9 = .b true ∧ e 11 = .p 11 0 ∧ e 13 = .p 19 0 ∧ e 21 = .i .i64 i ∧ 20 ≤ x ∧ m 11 = some (.cells (cF X) false) ∧ m 19 = some (.cells (cF Y) false) ∧ i ≤ w) 5 ?_ ?_ ?_
    · simp +contextual (disch := omega) [Nat.add_assoc, Int.add_assoc, if_pos, if_neg, -Int.not_lt, -Int.not_le, -Nat.not_lt, -Nat.not_le, -List.length_flatMap]
    · rintro i e m x hi ⟨g9, g11, g13, g21, gx, y11, y19, giw⟩
      have hva := hVa (onesP i) (ones_len i) (ones_nats i)
      have hvb := hVb (onesP i) (ones_len i) (ones_nats i)
      have hne : ¬ vF Y (onesP i) < vF X (onesP i) → i + 1 ≤ w := fun h => by
        have : i ≠ w := by rintro rfl; exact h hwl
        omega
      obtain ⟨a, ha⟩ : ∃ a, a = vF X (onesP i) := ⟨_, rfl⟩
      obtain ⟨b, hb⟩ : ∃ b, b = vF Y (onesP i) := ⟨_, rfl⟩
      rw [← ha] at hva
      rw [← hb] at hvb
      rw [← ha, ← hb] at hne
      clear ha hb
      have : i = 0 ∨ i = 1 ∨ i = 2 ∨ i = 3 ∨ i = 4 := by omega
      rcases this with rfl | rfl | rfl | rfl | rfl
      all_goals
        simp [onesP, sV] at hva hvb
        by_cases hab : b < a
        · simp +contextual (disch := omega) [Nat.add_assoc, Int.add_assoc, if_pos, if_neg, -Int.not_lt, -Int.not_le, -Nat.not_lt, -Nat.not_le, -List.length_flatMap, law06_FlatLeq.b2, g9, g11, g13, g21, y11, y19, ansK hva, ansK hvb, hab]
        · have := hne hab
          simp +contextual (disch := omega) [Nat.add_assoc, Int.add_assoc, if_pos, if_neg, -Int.not_lt, -Int.not_le, -Nat.not_lt, -Nat.not_le, -List.length_flatMap, law06_FlatLeq.b2, g9, g11, g13, g21, y11, y19, ansK hva, ansK hvb, hab]
          omega
    · rintro e m x ⟨g9, g11, g13, g21, gx, y11, y19, giw⟩
      omega
  | true =>
    rw [hc] at hL1 hS
    simp +contextual (disch := omega) [Nat.add_assoc, Int.add_assoc, if_pos, if_neg, -Int.not_lt, -Int.not_le, -Nat.not_lt, -Nat.not_le, -List.length_flatMap, law06_FlatLeq.c, ansK law06_awake.a, ansK q1, ansK q2, ansK hC, ansK h1, ansK h2, ansK hLr, ansK hL1, ansK hL2, ansK hS]
    rw [CallX_op (by rfl)]
    refine openg_w rfl rfl (.inl rfl) ?_
    have hfvv : ctx.frz law02_Values.n = false := rfl
    rw [hfvv]
    refine law02_Values.w v hv lv 4 (by omega) ?_
    intro m1 x1 hx1 hmv hm1
    have hvl := valuesS_len v 4
    have hvs : ∀ j, 0 ≤ (valuesS v 4).getD j 0 ∧ (valuesS v 4).getD j 0 ≤ 1000 := fun j => by
      by_cases h : j < 4
      · simp [valuesS, h]; omega
      · simp [valuesS, List.getElem?_eq_none (by simpa using h : (List.range 4).length ≤ j)]
    generalize valuesS v 4 = P at *
    have y11 : m1 11 = some (.cells (cF X) false) := by rw [hm1 11 (by omega)]; simp +contextual (disch := omega) [Nat.add_assoc, Int.add_assoc, if_pos, if_neg, -Int.not_lt, -Int.not_le, -Nat.not_lt, -Nat.not_le, -List.length_flatMap]
    have y19 : m1 19 = some (.cells (cF Y) false) := by rw [hm1 19 (by omega)]; simp +contextual (disch := omega) [Nat.add_assoc, Int.add_assoc, if_pos, if_neg, -Int.not_lt, -Int.not_le, -Nat.not_lt, -Nat.not_le, -List.length_flatMap]
    simp +contextual (disch := omega) [Nat.add_assoc, Int.add_assoc, if_pos, if_neg, -Int.not_lt, -Int.not_le, -Nat.not_lt, -Nat.not_le, -List.length_flatMap]
    refine for_w (fun i e m x => e 9 = .b true ∧ e 11 = .p 11 0 ∧ e 13 = .p 19 0 ∧ e 15 = .ms 49 0 4 1 ∧ e 16 = .i .i64 i ∧ 50 ≤ x ∧ m 11 = some (.cells (cF X) false) ∧ m 19 = some (.cells (cF Y) false) ∧ ∃ o : List Int, m 49 = some (.cells (o.flatMap cI) false) ∧ o.length = 4 ∧ ∀ j : Nat, o.getD j 0 = if j < i then P.getD j 0 + 1 else P.getD j 0) 4 ?_ ?_ ?_
    · simp +contextual (disch := omega) [Nat.add_assoc, Int.add_assoc, if_pos, if_neg, -Int.not_lt, -Int.not_le, -Nat.not_lt, -Nat.not_le, -List.length_flatMap, y11, y19]
      exact ⟨by omega, P, hmv, hvl, fun j => rfl⟩
    · rintro i e m x hi ⟨g9, g11, g13, g15, g16, gx, y11, y19, o, y49, ho, hoj⟩
      have hio : i < o.length := by omega
      have hoi : o[i] = P.getD i 0 := by
        have := hoj i
        rw [if_neg (show ¬ i < i by omega)] at this
        rw [← this]; simp [hio]
      have hb := hvs i
      rw [← hoi] at hb
      have hcl : (o.flatMap cI).length = 4 := by rw [flatI_len, ho]
      have hat : ∀ h : i < (o.flatMap cI).length, (o.flatMap cI)[i] = V.i .i64 o[i] := fun h => flatI_get h
      have hs1 := flatI_set (l := o) (j := i) (v := o[i] + 1) hio
      have key : ∀ j : Nat, (o.set i (o[i] + 1)).getD j 0 = if j < i + 1 then P.getD j 0 + 1 else P.getD j 0 := fun j => by
        rw [set_getD, hoj j]
        by_cases hj : i = j
        · subst hj
          rw [if_pos ⟨rfl, hio⟩, if_pos (show i < i + 1 by omega), hoi]
        · rw [if_neg (show ¬ (i = j ∧ j < o.length) by omega)]
          by_cases hj2 : j < i
          · rw [if_pos hj2, if_pos (show j < i + 1 by omega)]
          · rw [if_neg hj2, if_neg (show ¬ j < i + 1 by omega)]
      simp +contextual (disch := omega) [Nat.add_assoc, Int.add_assoc, if_pos, if_neg, -Int.not_lt, -Int.not_le, -Nat.not_lt, -Nat.not_le, -List.length_flatMap, law06_FlatLeq.b1, g9, g11, g13, g15, g16, y11, y19, y49, hi, hcl, hat, hs1]
      exact ⟨by omega, o.set i (o[i] + 1), rfl, by simp [ho], fun j => by simpa using key j⟩
    · rintro e m x ⟨g9, g11, g13, g15, g16, gx, y11, y19, o, y49, ho, hoj⟩
      have h1p : ∀ i : Nat, i < o.length → 1 ≤ o.getD i 0 := fun i hi => by
        have h1 := hoj i
        rw [if_pos (show i < 4 by omega)] at h1
        have := hvs i
        omega
      have hN : Nats o := by
        intro a ha
        obtain ⟨j, hj, rfl⟩ := List.mem_iff_getElem.1 ha
        have h1 := hoj j
        have := hvs j
        have e1 : o.getD j 0 = o[j] := by simp [hj]
        rw [e1] at h1
        rw [h1]
        split <;> omega
      have hva := hVa o ho hN
      have hvb := hVb o ho hN
      have hle := leq_vF ra rb (la.trans lb.symm) hc (la.trans ho.symm) h1p
      generalize vF X o = a at *
      generalize vF Y o = b at *
      have hcl : (o.flatMap cI).length = 4 := by rw [flatI_len, ho]
      have htk := flatI_all (q := o) (n := 4) ho.symm
      rw [sV, ho] at hva hvb
      simp +contextual (disch := omega) [Nat.add_assoc, Int.add_assoc, if_pos, if_neg, -Int.not_lt, -Int.not_le, -Nat.not_lt, -Nat.not_le, -List.length_flatMap, law06_FlatLeq.b1, g9, g11, g13, g15, g16, y11, y19, y49, hcl, htk, ansK hva, ansK hvb]
      exact hle
end Pi
