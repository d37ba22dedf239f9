/- Contracts: flats (layer 6): the document's Flatten. -/
import Derived.Test.YtjaoacpemboakaaC06e
set_option linter.unusedSimpArgs false
set_option linter.unusedVariables false
namespace Pi
set_option maxHeartbeats 2000000 in
theorem ref06_raw.a (l : L) : l.Ok → ∀ (zero : List Bool) (d : Int), zero.length ≤ 5 → d ≤ 100 → rightS l zero.length 0 d = true → Ans ctx ref06_raw.n [.ag (cL l), sV cB zero] (.ag (cF (ofS l zero))) := by
  induction l using L.ind with
  | h l ih =>
  intro ok zero d hz hd hr
  obtain ⟨h1, h2, h3, h4⟩ := right_kid hr
  have hbd := ofS_bd l zero d hr
  have hkb := fun k hk => ofS_bd k zero (d - 1) (h4 k hk)
  have hfn : ctx.frz ref06_none.n = false := rfl
  refine ans ref06_raw.f ?_
  rw [ofS_eq]
  rcases right_kind hr with hk | hk | hk | hk | hk | hk
  · have e1 : ofK l.kind l.n zero (l.kids.map fun k => ofS k zero) = plainF zero.length := by simp [ofK, hk]
    rw [e1]
    simp +contextual (disch := omega) [Nat.add_assoc, Int.add_assoc, if_pos, if_neg, -Int.not_lt, -Int.not_le, -Nat.not_lt, -Nat.not_le, -List.length_flatMap, ref06_raw.c, hk]
    rw [CallX_op (by rfl)]
    refine openg_w rfl rfl (.inl rfl) ?_
    rw [hfn]
    refine ref06_none.w 0 zero.length (by omega) ?_
    intro B m1 x1 hx1 hm1 hB
    have hst := hB.stor
    have y1 : m1 1 = some (.cells [.i .i64 0, .ns] false) := by rw [hm1 1 (by omega)]; simp +contextual (disch := omega) [Nat.add_assoc, Int.add_assoc, if_pos, if_neg, -Int.not_lt, -Int.not_le, -Nat.not_lt, -Nat.not_le, -List.length_flatMap]
    have hBz : ∀ M' : Sto, (∀ j, 2 ≤ j → j < x1 → M' j = m1 j) → frzW (der M' 24) B = some (sV cI (List.replicate zero.length (-1)), refOf B) := fun M' h => (hB.up (Nat.le_refl _) (Nat.le_refl _) (fun j h1 h2 => h j (by omega) h2)).bf.fz24
    simp +contextual (disch := omega) [Nat.add_assoc, Int.add_assoc, if_pos, if_neg, -Int.not_lt, -Int.not_le, -Nat.not_lt, -Nat.not_le, -List.length_flatMap, y1, hst.1, hst.2.1]
    rw [hBz _ (fun j h1 h2 => by simp +contextual (disch := omega) [Nat.add_assoc, Int.add_assoc, if_pos, if_neg, -Int.not_lt, -Int.not_le, -Nat.not_lt, -Nat.not_le, -List.length_flatMap])]
    simp +contextual (disch := omega) [Nat.add_assoc, Int.add_assoc, if_pos, if_neg, -Int.not_lt, -Int.not_le, -Nat.not_lt, -Nat.not_le, -List.length_flatMap, cF, plainF]
  · rw [hk] at h2
    obtain ⟨k0, hks⟩ := kids1 (l := l) (by rw [h2]; simp [kidsS])
    have m0 : k0 ∈ l.kids := by rw [hks]; simp
    have e1 : ofK l.kind l.n zero (l.kids.map fun k => ofS k zero) = succF (ofS k0 zero) := by rw [hks]; simp [ofK, hk]
    have b0 := hkb k0 m0
    rw [e1]
    have hI := ih k0 m0 (ok.kid m0) zero (d - 1) hz (by omega) (h4 k0 m0)
    obtain ⟨bl, ⟨bc1, bc2⟩, bo⟩ := b0
    generalize ofS k0 zero = f at *
    simp +contextual (disch := omega) [Nat.add_assoc, Int.add_assoc, if_pos, if_neg, -Int.not_lt, -Int.not_le, -Nat.not_lt, -Nat.not_le, -List.length_flatMap, ref06_raw.c, hk, hks, ansK hI]
    refine for_w (fun i e m x => ∃ B, e 4 = .p 1 0 ∧ e 5 = .p 11 0 ∧ e 6 = .p 17 0 ∧ e 7 = .i .i64 i ∧ 18 ≤ x ∧ m 1 = some (.cells [.i .i64 0, .ns] false) ∧ m 11 = some (.cells (cF f) false) ∧ m 17 = some (.cells [.i .i64 (f.cst + 1), B] false) ∧
      Ex m B ((f.offs.take i).map upO) 18 x) f.offs.length ?_ ?_ ?_
    · refine ⟨.ns, ?_⟩
      simp +contextual (disch := omega) [Nat.add_assoc, Int.add_assoc, if_pos, if_neg, -Int.not_lt, -Int.not_le, -Nat.not_lt, -Nat.not_le, -List.length_flatMap]
      exact .inl ⟨rfl, rfl⟩
    · rintro i e m x hi ⟨B, g4, g5, g6, g7, gx, y1, y11, y17, gB⟩
      have hoi := bo _ (List.getElem_mem hi)
      have ht : (f.offs.take (i + 1)).map upO = (f.offs.take i).map upO ++ [upO f.offs[i]] := by rw [List.take_succ_eq_append_getElem hi, List.map_append]; rfl
      by_cases hm : 0 ≤ f.offs[i]
      · have e1 : upO f.offs[i] = f.offs[i] + 1 := by unfold upO; rw [if_neg (by omega)]
        rw [e1] at ht
        simp +contextual (disch := omega) [Nat.add_assoc, Int.add_assoc, if_pos, if_neg, -Int.not_lt, -Int.not_le, -Nat.not_lt, -Nat.not_le, -List.length_flatMap, ref06_raw.b1, g4, g5, g6, g7, y1, y11, y17, hi, hm, -apV_ns]
        refine gB.ap [f.offs[i] + 1] (fun j h1 h2 => by simp +contextual (disch := omega) [Nat.add_assoc, Int.add_assoc, if_pos, if_neg, -Int.not_lt, -Int.not_le, -Nat.not_lt, -Nat.not_le, -List.length_flatMap]) (by omega) (by omega) rfl rfl (by simp) (by simp; omega) ?_
        intro B' ws m2 z0 z1 z2 z3
        have q1 : m2 1 = some (.cells [.i .i64 0, .ns] false) := by rw [z2 1 (by omega)]; simp +contextual (disch := omega) [Nat.add_assoc, Int.add_assoc, if_pos, if_neg, -Int.not_lt, -Int.not_le, -Nat.not_lt, -Nat.not_le, -List.length_flatMap, y1]
        have q11 : m2 11 = some (.cells (cF f) false) := by rw [z2 11 (by omega)]; simp +contextual (disch := omega) [Nat.add_assoc, Int.add_assoc, if_pos, if_neg, -Int.not_lt, -Int.not_le, -Nat.not_lt, -Nat.not_le, -List.length_flatMap, y11]
        have q17 : m2 17 = some (.cells [.i .i64 (f.cst + 1), B] false) := by rw [z2 17 (by omega)]; simp +contextual (disch := omega) [Nat.add_assoc, Int.add_assoc, if_pos, if_neg, -Int.not_lt, -Int.not_le, -Nat.not_lt, -Nat.not_le, -List.length_flatMap, y17]
        have hst := z1.stor
        rw [← ht] at z1
        simp +contextual (disch := omega) [Nat.add_assoc, Int.add_assoc, if_pos, if_neg, -Int.not_lt, -Int.not_le, -Nat.not_lt, -Nat.not_le, -List.length_flatMap, z0, g4, g5, g6, g7, q1, q11, q17, hst.1, hst.2.1]
        rw [← List.map_take]
        exact z1.up (by omega) (by omega) (fun j h1 h2 => by simp +contextual (disch := omega) [Nat.add_assoc, Int.add_assoc, if_pos, if_neg, -Int.not_lt, -Int.not_le, -Nat.not_lt, -Nat.not_le, -List.length_flatMap])
      · have e1 : upO f.offs[i] = f.offs[i] := by unfold upO; rw [if_pos (by omega)]
        rw [e1] at ht
        simp +contextual (disch := omega) [Nat.add_assoc, Int.add_assoc, if_pos, if_neg, -Int.not_lt, -Int.not_le, -Nat.not_lt, -Nat.not_le, -List.length_flatMap, ref06_raw.b1, g4, g5, g6, g7, y1, y11, y17, hi, hm, -apV_ns]
        refine gB.ap [f.offs[i]] (fun j h1 h2 => by simp +contextual (disch := omega) [Nat.add_assoc, Int.add_assoc, if_pos, if_neg, -Int.not_lt, -Int.not_le, -Nat.not_lt, -Nat.not_le, -List.length_flatMap]) (by omega) (by omega) rfl rfl (by simp) (by simp; omega) ?_
        intro B' ws m2 z0 z1 z2 z3
        have q1 : m2 1 = some (.cells [.i .i64 0, .ns] false) := by rw [z2 1 (by omega)]; simp +contextual (disch := omega) [Nat.add_assoc, Int.add_assoc, if_pos, if_neg, -Int.not_lt, -Int.not_le, -Nat.not_lt, -Nat.not_le, -List.length_flatMap, y1]
        have q11 : m2 11 = some (.cells (cF f) false) := by rw [z2 11 (by omega)]; simp +contextual (disch := omega) [Nat.add_assoc, Int.add_assoc, if_pos, if_neg, -Int.not_lt, -Int.not_le, -Nat.not_lt, -Nat.not_le, -List.length_flatMap, y11]
        have q17 : m2 17 = some (.cells [.i .i64 (f.cst + 1), B] false) := by rw [z2 17 (by omega)]; simp +contextual (disch := omega) [Nat.add_assoc, Int.add_assoc, if_pos, if_neg, -Int.not_lt, -Int.not_le, -Nat.not_lt, -Nat.not_le, -List.length_flatMap, y17]
        have hst := z1.stor
        rw [← ht] at z1
        simp +contextual (disch := omega) [Nat.add_assoc, Int.add_assoc, if_pos, if_neg, -Int.not_lt, -Int.not_le, -Nat.not_lt, -Nat.not_le, -List.length_flatMap, z0, g4, g5, g6, g7, q1, q11, q17, hst.1, hst.2.1]
        rw [← List.map_take]
        exact z1.up (by omega) (by omega) (fun j h1 h2 => by simp +contextual (disch := omega) [Nat.add_assoc, Int.add_assoc, if_pos, if_neg, -Int.not_lt, -Int.not_le, -Nat.not_lt, -Nat.not_le, -List.length_flatMap])
    · rintro e m x ⟨B, g4, g5, g6, g7, gx, y1, y11, y17, gB⟩
      have hst := gB.stor
      have hfz := (gB.up (m' := m.set 1 (some (.cells [.i .i64 (f.cst + 1), B] false))) (Nat.le_refl _) (Nat.le_refl _) (fun j h1 h2 => by simp +contextual (disch := omega) [Nat.add_assoc, Int.add_assoc, if_pos, if_neg, -Int.not_lt, -Int.not_le, -Nat.not_lt, -Nat.not_le, -List.length_flatMap])).bf.fz24
      rw [List.take_length] at hfz
      simp +contextual (disch := omega) [Nat.add_assoc, Int.add_assoc, if_pos, if_neg, -Int.not_lt, -Int.not_le, -Nat.not_lt, -Nat.not_le, -List.length_flatMap, ref06_raw.b1, g4, g5, g6, g7, y1, y11, y17, hst.1, hst.2.1, hfz]
      rfl
  · rw [hk] at h2
    obtain ⟨k0, k1, hks⟩ := kids2 (l := l) (by rw [h2]; simp [kidsS])
    have m0 : k0 ∈ l.kids := by rw [hks]; simp
    have m1' : k1 ∈ l.kids := by rw [hks]; simp
    have e1 : ofK l.kind l.n zero (l.kids.map fun k => ofS k zero) = joinF (ofS k0 zero) (ofS k1 zero) := by rw [hks]; simp [ofK, hk]
    have b0 := hkb k0 m0
    have b1 := hkb k1 m1'
    rw [e1]
    simp +contextual (disch := omega) [Nat.add_assoc, Int.add_assoc, if_pos, if_neg, -Int.not_lt, -Int.not_le, -Nat.not_lt, -Nat.not_le, -List.length_flatMap, ref06_raw.c, hk, hks, ansK (ih k0 m0 (ok.kid m0) zero (d - 1) hz (by omega) (h4 k0 m0)), ansK (ih k1 m1' (ok.kid m1') zero (d - 1) hz (by omega) (h4 k1 m1')), ansK (ref06_both.a (ofS k0 zero) (ofS k1 zero) (by rw [b0.1, b1.1]) (by rw [b0.1]; omega))]
  · rw [hk] at h2
    obtain ⟨k0, k1, hks⟩ := kids2 (l := l) (by rw [h2]; simp [kidsS])
    have m0 : k0 ∈ l.kids := by rw [hks]; simp
    have m1' : k1 ∈ l.kids := by rw [hks]; simp
    have e1 : ofK l.kind l.n zero (l.kids.map fun k => ofS k zero) = if (ofS k1 zero).cst = 0 ∧ topF (ofS k1 zero) = -1 then ofS k1 zero else joinF (ofS k0 zero) (ofS k1 zero) := by rw [hks]; simp [ofK, hk]
    have b0 := hkb k0 m0
    have b1 := hkb k1 m1'
    rw [e1]
    have hN := ref06_nought.a (ofS k1 zero) (by rw [b1.1]; omega)
    have hni := nought_iff b1
    by_cases c : (ofS k1 zero).cst = 0 ∧ topF (ofS k1 zero) = -1
    · rw [hni.2 c] at hN
      rw [if_pos c]
      simp +contextual (disch := omega) [Nat.add_assoc, Int.add_assoc, if_pos, if_neg, -Int.not_lt, -Int.not_le, -Nat.not_lt, -Nat.not_le, -List.length_flatMap, ref06_raw.c, hk, hks, ansK (ih k1 m1' (ok.kid m1') zero (d - 1) hz (by omega) (h4 k1 m1')), ansK hN]
    · have : noughtF (ofS k1 zero) = false := by rw [← Bool.not_eq_true, hni]; exact c
      rw [this] at hN
      rw [if_neg c]
      simp +contextual (disch := omega) [Nat.add_assoc, Int.add_assoc, if_pos, if_neg, -Int.not_lt, -Int.not_le, -Nat.not_lt, -Nat.not_le, -List.length_flatMap, ref06_raw.c, hk, hks, ansK (ih k0 m0 (ok.kid m0) zero (d - 1) hz (by omega) (h4 k0 m0)), ansK (ih k1 m1' (ok.kid m1') zero (d - 1) hz (by omega) (h4 k1 m1')), ansK hN, ansK (ref06_both.a (ofS k0 zero) (ofS k1 zero) (by rw [b0.1, b1.1]) (by rw [b0.1]; omega))]
  · have hn : 0 ≤ l.n ∧ l.n < zero.length := by simp [namedS, hk] at h3; exact h3
    obtain ⟨q, hq⟩ : ∃ q : Nat, l.n = q := ⟨l.n.toNat, by omega⟩
    have hql : q < zero.length := by omega
    have hgd : zero.getD q true = zero[q] := by simp [hql]
    obtain ⟨U, hU⟩ : ∃ U, U = ofK l.kind l.n zero (l.kids.map fun k => ofS k zero) := ⟨_, rfl⟩
    rw [← hU]
    simp +contextual (disch := omega) [Nat.add_assoc, Int.add_assoc, if_pos, if_neg, -Int.not_lt, -Int.not_le, -Nat.not_lt, -Nat.not_le, -List.length_flatMap, ref06_raw.c, hk]
    rw [CallX_op (by rfl)]
    refine openg_w rfl rfl (.inl rfl) ?_
    rw [hfn]
    refine ref06_none.w 0 zero.length (by omega) ?_
    intro B m1 x1 hx1 hm1 hB
    have hst := hB.stor
    have y0 : m1 0 = some (.cells (cL l) false) := by rw [hm1 0 (by omega)]; simp +contextual (disch := omega) [Nat.add_assoc, Int.add_assoc, if_pos, if_neg, -Int.not_lt, -Int.not_le, -Nat.not_lt, -Nat.not_le, -List.length_flatMap]
    have y1 : m1 1 = some (.cells [.i .i64 0, .ns] false) := by rw [hm1 1 (by omega)]; simp +contextual (disch := omega) [Nat.add_assoc, Int.add_assoc, if_pos, if_neg, -Int.not_lt, -Int.not_le, -Nat.not_lt, -Nat.not_le, -List.length_flatMap]
    have hBz : ∀ M' : Sto, (∀ j, 2 ≤ j → j < x1 → M' j = m1 j) → frzW (der M' 24) B = some (sV cI (List.replicate zero.length (-1)), refOf B) := fun M' h => (hB.up (Nat.le_refl _) (Nat.le_refl _) (fun j h1 h2 => h j (by omega) h2)).bf.fz24
    cases hzq : zero[q] with
    | true =>
      have e1 : ofK l.kind l.n zero (l.kids.map fun k => ofS k zero) = plainF zero.length := by simp [ofK, hk, hq, hgd, hzq, hql]
      rw [e1] at hU
      rw [hU]
      simp +contextual (disch := omega) [Nat.add_assoc, Int.add_assoc, if_pos, if_neg, -Int.not_lt, -Int.not_le, -Nat.not_lt, -Nat.not_le, -List.length_flatMap, y0, y1, hst.1, hst.2.1, hk, hq, hql, hzq]
      rw [hBz _ (fun j h1 h2 => by simp +contextual (disch := omega) [Nat.add_assoc, Int.add_assoc, if_pos, if_neg, -Int.not_lt, -Int.not_le, -Nat.not_lt, -Nat.not_le, -List.length_flatMap])]
      simp +contextual (disch := omega) [Nat.add_assoc, Int.add_assoc, if_pos, if_neg, -Int.not_lt, -Int.not_le, -Nat.not_lt, -Nat.not_le, -List.length_flatMap, cF, plainF]
    | false =>
      have e1 : ofK l.kind l.n zero (l.kids.map fun k => ofS k zero) = ⟨0, (List.replicate zero.length (-1)).set q 0⟩ := by simp [ofK, hk, hq, hgd, hzq, hql]
      rw [e1] at hU
      rw [hU]
      have hlr : (List.replicate zero.length (-1 : Int)).length = zero.length := by simp
      clear hBz
      rcases hB with ⟨_, h⟩ | ⟨a, rfl, g1, g2, g3⟩
      · have := congrArg List.length h; simp at this; rw [this] at hql; simp at hql
      · obtain ⟨R, hR⟩ : ∃ R, R = List.replicate zero.length (-1 : Int) := ⟨_, rfl⟩
        rw [← hR] at g1 hlr hst ⊢
        have hcl : (R.flatMap cI).length = zero.length := by rw [flatI_len, hlr]
        rw [hlr] at hst ⊢
        have hfs := flatI_set (l := R) (j := q) (v := 0) (by omega)
        have hcl2 : ((R.set q 0).flatMap cI).length = zero.length := by rw [flatI_len, List.length_set, hlr]
        have htk := flatI_all (q := R.set q 0) (n := zero.length) (by rw [List.length_set, hlr])
        simp +contextual (disch := omega) [Nat.add_assoc, Int.add_assoc, if_pos, if_neg, -Int.not_lt, -Int.not_le, -Nat.not_lt, -Nat.not_le, -List.length_flatMap, y0, y1, hst.1, hst.2.1, hk, hq, hql, hzq, g1, hcl, hfs, hcl2, htk]
        simp [cF, sV, hlr]
  · simp [namedS, hk] at h3; omega
theorem fmax_thr (l : List Int) (t c : Int) (ht : -1 ≤ t) : (c ≤ l.foldl max t + 1 ∧ 0 ≤ l.foldl max t) ↔ ((c ≤ t + 1 ∧ 0 ≤ t) ∨ ∃ a ∈ l, 0 ≤ a ∧ c ≤ a + 1) := by
  induction l generalizing t with
  | nil => simp
  | cons b l ih =>
    rw [List.foldl_cons, ih (max t b) (by omega)]
    simp only [List.mem_cons, exists_eq_or_imp]
    constructor
    · rintro (h | h)
      · by_cases hb : b ≤ t
        · left; omega
        · right; left; omega
      · exact .inr (.inr h)
    · rintro (h | h | h)
      · left; omega
      · left; omega
      · exact .inr h
def lowO (l : List Int) (c : Int) : Bool := l.any fun a => decide (0 ≤ a) && decide (c ≤ a + 1)
theorem flatten_low {p : Nat} {d : Int} (l : L) (zero : List Bool) (h : Bd p d (ofS l zero)) : flattenF l zero = ⟨if lowO (ofS l zero).offs (ofS l zero).cst = true then 0 else (ofS l zero).cst, (ofS l zero).offs⟩ := by
  have h1 := fmax_thr (ofS l zero).offs (-1) (ofS l zero).cst (by omega)
  have h2 : -1 ≤ topF (ofS l zero) := fmax_ge _ _
  have h3 : lowO (ofS l zero).offs (ofS l zero).cst = true ↔ (∃ a ∈ (ofS l zero).offs, 0 ≤ a ∧ (ofS l zero).cst ≤ a + 1) := by
    unfold lowO
    simp [List.any_eq_true]
  have h4 : (topF (ofS l zero) ≠ -1 ∧ (ofS l zero).cst ≤ topF (ofS l zero) + 1) ↔ lowO (ofS l zero).offs (ofS l zero).cst = true := by
    rw [h3]
    unfold topF at h2 ⊢
    constructor
    · intro h
      rcases h1.1 ⟨h.2, by omega⟩ with h | h
      · omega
      · exact h
    · intro h
      have := h1.2 (.inr h)
      omega
  unfold flattenF
  by_cases hc : topF (ofS l zero) ≠ -1 ∧ (ofS l zero).cst ≤ topF (ofS l zero) + 1
  · rw [if_pos hc, if_pos (h4.1 hc)]
  · rw [if_neg hc, if_neg (fun h => hc (h4.2 h))]
theorem ref06_Flatten.a (l : L) (ok : l.Ok) (zero : List Bool) (hz : zero.length ≤ 1000000) : Ans ctx ref06_Flatten.n [.ag (cL l), sV cB zero] (flattenV l zero) := by
  refine ans ref06_Flatten.f ?_
  have hR := ref02_Right.a l ok zero.length 0
  unfold flattenV
  cases h1 : RightS l zero.length 0 with
  | false =>
    rw [h1] at hR
    simp +contextual (disch := omega) [Nat.add_assoc, Int.add_assoc, if_pos, if_neg, -Int.not_lt, -Int.not_le, -Nat.not_lt, -Nat.not_le, -List.length_flatMap, ref06_Flatten.c, ansK hR]
    rfl
  | true =>
    rw [h1] at hR
    obtain ⟨hp, hr⟩ := RightS_ok (q := 0) h1
    have hbd := ofS_bd l zero 12 hr
    have hI := ref06_raw.a l ok zero 12 hp (by omega) hr
    rw [if_pos rfl, flatten_low l zero hbd]
    obtain ⟨bl, ⟨bc1, bc2⟩, bo⟩ := hbd
    generalize ofS l zero = f at *
    obtain ⟨U, hU⟩ : ∃ U : Int, U = if lowO f.offs f.cst = true then 0 else f.cst := ⟨_, rfl⟩
    rw [← hU]
    simp +contextual (disch := omega) [Nat.add_assoc, Int.add_assoc, if_pos, if_neg, -Int.not_lt, -Int.not_le, -Nat.not_lt, -Nat.not_le, -List.length_flatMap, ref06_Flatten.c, ansK hR, ansK hI]
    refine for_w (fun i e m x => e 4 = .p 1 0 ∧ e 6 = .p 9 0 ∧ e 7 = .i .i64 i ∧ 10 ≤ x ∧ m 1 = some (.cells [.i .i64 0, .ns] false) ∧ m 9 = some (.cells (cF ⟨if lowO (f.offs.take i) f.cst = true then 0 else f.cst, f.offs⟩) false)) f.offs.length ?_ ?_ ?_
    · simp +contextual (disch := omega) [Nat.add_assoc, Int.add_assoc, if_pos, if_neg, -Int.not_lt, -Int.not_le, -Nat.not_lt, -Nat.not_le, -List.length_flatMap, lowO]
    · rintro i e m x hi ⟨g4, g6, g7, gx, y1, y5⟩
      have hoi := bo _ (List.getElem_mem hi)
      have hlo : lowO (f.offs.take (i + 1)) f.cst = (lowO (f.offs.take i) f.cst || (decide (0 ≤ f.offs[i]) && decide (f.cst ≤ f.offs[i] + 1))) := take_any hi
      obtain ⟨c, hc⟩ : ∃ c : Int, c = if lowO (f.offs.take i) f.cst = true then 0 else f.cst := ⟨_, rfl⟩
      obtain ⟨c', hc'⟩ : ∃ c' : Int, c' = if lowO (f.offs.take (i + 1)) f.cst = true then 0 else f.cst := ⟨_, rfl⟩
      rw [← hc] at y5
      rw [← hc']
      have hcb : 0 ≤ c ∧ c ≤ 1000 := by rw [hc]; split <;> omega
      by_cases h2 : 0 ≤ f.offs[i]
      · by_cases h3 : c ≤ f.offs[i] + 1
        · have : c' = 0 := by
            rw [hc', hlo]
            by_cases h5 : lowO (f.offs.take i) f.cst = true
            · simp [h5]
            · rw [if_neg h5] at hc
              simp [h5, h2, ← hc, h3]
          simp +contextual (disch := omega) [Nat.add_assoc, Int.add_assoc, if_pos, if_neg, -Int.not_lt, -Int.not_le, -Nat.not_lt, -Nat.not_le, -List.length_flatMap, ref06_Flatten.b1, g4, g6, g7, y1, y5, hi, h2, h3, this]
          rfl
        · have : c' = c := by
            rw [hc', hlo]
            by_cases h5 : lowO (f.offs.take i) f.cst = true
            · rw [if_pos h5] at hc; omega
            · rw [if_neg h5] at hc
              rw [if_neg (by simp [h5]; omega), hc]
          simp +contextual (disch := omega) [Nat.add_assoc, Int.add_assoc, if_pos, if_neg, -Int.not_lt, -Int.not_le, -Nat.not_lt, -Nat.not_le, -List.length_flatMap, ref06_Flatten.b1, g4, g6, g7, y1, y5, hi, h2, h3, this]
      · have : c' = c := by rw [hc', hlo, hc]; simp [h2]
        simp +contextual (disch := omega) [Nat.add_assoc, Int.add_assoc, if_pos, if_neg, -Int.not_lt, -Int.not_le, -Nat.not_lt, -Nat.not_le, -List.length_flatMap, ref06_Flatten.b1, g4, g6, g7, y1, y5, hi, h2, this]
    · rintro e m x ⟨g4, g6, g7, gx, y1, y5⟩
      rw [List.take_length, ← hU] at y5
      simp +contextual (disch := omega) [Nat.add_assoc, Int.add_assoc, if_pos, if_neg, -Int.not_lt, -Int.not_le, -Nat.not_lt, -Nat.not_le, -List.length_flatMap, ref06_Flatten.b1, g4, g6, g7, y1, y5]
end Pi
