/- Contracts: flats (layer 6): the document's Flatten. -/
import Derived.Test.YtbkkigmlkafeiaaC06d
import Derived.Test.YtbkkigmlkafeiaaEnc
import Derived.Test.YtbkkigmlkafeiaaC02a
import Derived.Test.YtbkkigmlkafeiaaCode
set_option linter.unusedSimpArgs false
set_option linter.unusedVariables false
namespace Pi
set_option maxHeartbeats 2000000 in
theorem ref06_raw.a (l : L) : l.Ok → ∀ (zero : List Bool) (d : Int), zero.length ≤ 5 → d ≤ 100 → rightS l zero.length 0 d = true → Ans ctx ref06_raw.n [.ag (cL l), sV cB zero] (.ag (cF (ofS l zero))) := by
  induction l using L.ind with
  | h l ih =>
  intro ok zero d hz hd hr
  obtain ⟨h1, h2, h3, h4⟩ := right_kid hr
  have hbd := ofS_bd l zero d hr
  have hkb := fun k hk => ofS_bd k zero (d - 1) (h4 k hk)
  have hfn : ctx.frz ref06_none.n = false := rfl
  refine ans ref06_raw.f ?_
  rw [ofS_eq]
  rcases right_kind hr with hk | hk | hk | hk | hk | hk
  · have e1 : ofK l.kind l.n zero (l.kids.map fun k => ofS k zero) = plainF zero.length := by simp [ofK, hk]
    rw [e1]
    simp +contextual (disch := omega) [Nat.add_assoc, Int.add_assoc, if_pos, if_neg, -Int.not_lt, -Int.not_le, -Nat.not_lt, -Nat.not_le, -List.length_flatMap, ref06_raw.c, hk]
    rw [CallX_op (by rfl)]
    refine openg_w rfl rfl (.inl rfl) ?_
    rw [hfn]
    refine ref06_none.w 0 zero.length (by omega) ?_
    intro B m1 x1 hx1 hm1 hB
    have hst := hB.stor
    have y1 : m1 1 = some (.cells [.i .i64 0, .ns] false) := by rw [hm1 1 (by omega)]; simp +contextual (disch := omega) [Nat.add_assoc, Int.add_assoc, if_pos, if_neg, -Int.not_lt, -Int.not_le, -Nat.not_lt, -Nat.not_le, -List.length_flatMap]
    have hBz : ∀ M' : Sto, (∀ j, 2 ≤ j → j < x1 → M' j = m1 j) → frzW (der M' 24) B = some (sV cI (List.replicate zero.length (-1)), refOf B) := fun M' h => (hB.up (Nat.le_refl _) (Nat.le_refl _) (fun j h1 h2 => h j (by omega) h2)).bf.fz24
    simp +contextual (disch := omega) [Nat.add_assoc, Int.add_assoc, if_pos, if_neg, -Int.not_lt, -Int.not_le, -Nat.not_lt, -Nat.not_le, -List.length_flatMap, y1, hst.1, hst.2.1]
    rw [hBz _ (fun j h1 h2 => by simp +contextual (disch := omega) [Nat.add_assoc, Int.add_assoc, if_pos, if_neg, -Int.not_lt, -Int.not_le, -Nat.not_lt, -Nat.not_le, -List.length_flatMap])]
    simp +contextual (disch := omega) [Nat.add_assoc, Int.add_assoc, if_pos, if_neg, -Int.not_lt, -Int.not_le, -Nat.not_lt, -Nat.not_le, -List.length_flatMap, cF, plainF]
  · rw [hk] at h2
    obtain ⟨k0, hks⟩ := kids1 (l := l) (by rw [h2]; simp [kidsS])
    have m0 : k0 ∈ l.kids := by rw [hks]; simp
    have e1 : ofK l.kind l.n zero (l.kids.map fun k => ofS k zero) = succF (ofS k0 zero) := by rw [hks]; simp [ofK, hk]
    have b0 := hkb k0 m0
    rw [e1]
    have hI := ih k0 m0 (ok.kid m0) zero (d - 1) hz (by omega) (h4 k0 m0)
    obtain ⟨bl, ⟨bc1, bc2⟩, bo⟩ := b0
    generalize ofS k0 zero = f at *
    simp +contextual (disch := omega) [Nat.add_assoc, Int.add_assoc, if_pos, if_neg, -Int.not_lt, -Int.not_le, -Nat.not_lt, -Nat.not_le, -List.length_flatMap, ref06_raw.c, hk, hks, ansK hI]
    refine for_w (fun i e m x => ∃ B, e 4 = .p 1 0 ∧ e 5 = .p 11 0 ∧ e 6 = .p 17 0 ∧ e 7 = .i .i64 i ∧ 18 ≤ x ∧ m 1 = some (.cells [.i .i64 0, .ns] false) ∧ m 11 = some (.cells (cF f) false) ∧ m 17 = some (.cells [.i .i64 (f.cst + 1), B] false) ∧
      Ex m B ((f.offs.take i).map upO) 18 x) f.offs.length ?_ ?_ ?_
    · refine ⟨.ns, ?_⟩
      simp +contextual (disch := omega) [Nat.add_assoc, Int.add_assoc, if_pos, if_neg, -Int.not_lt, -Int.not_le, -Nat.not_lt, -Nat.not_le, -List.length_flatMap]
      exact .inl ⟨rfl, rfl⟩
    · rintro i e m x hi ⟨B, g4, g5, g6, g7, gx, y1, y11, y17, gB⟩
      have hoi := bo _ (List.getElem_mem hi)
      have ht : (f.offs.take (i + 1)).map upO = (f.offs.take i).map upO ++ [upO f.offs[i]] := by rw [List.take_succ_eq_append_getElem hi, List.map_append]; rfl
      by_cases hm : 0 ≤ f.offs[i]
      · have e1 : upO f.offs[i] = f.offs[i] + 1 := by unfold upO; rw [if_neg (by omega)]
        rw [e1] at ht
        simp +contextual (disch := omega) [Nat.add_assoc, Int.add_assoc, if_pos, if_neg, -Int.not_lt, -Int.not_le, -Nat.not_lt, -Nat.not_le, -List.length_flatMap, ref06_raw.b1, g4, g5, g6, g7, y1, y11, y17, hi, hm, -apV_ns]
        refine gB.ap [f.offs[i] + 1] (fun j h1 h2 => by simp +contextual (disch := omega) [Nat.add_assoc, Int.add_assoc, if_pos, if_neg, -Int.not_lt, -Int.not_le, -Nat.not_lt, -Nat.not_le, -List.length_flatMap]) (by omega) (by omega) rfl rfl (by simp) (by simp; omega) ?_
        intro B' ws m2 z0 z1 z2 z3
        have q1 : m2 1 = some (.cells [.i .i64 0, .ns] false) := by rw [z2 1 (by omega)]; simp +contextual (disch := omega) [Nat.add_assoc, Int.add_assoc, if_pos, if_neg, -Int.not_lt, -Int.not_le, -Nat.not_lt, -Nat.not_le, -List.length_flatMap, y1]
        have q11 : m2 11 = some (.cells (cF f) false) := by rw [z2 11 (by omega)]; simp +contextual (disch := omega) [Nat.add_assoc, Int.add_assoc, if_pos, if_neg, -Int.not_lt, -Int.not_le, -Nat.not_lt, -Nat.not_le, -List.length_flatMap, y11]
        have q17 : m2 17 = some (.cells [.i .i64 (f.cst + 1), B] false) := by rw [z2 17 (by omega)]; simp +contextual (disch := omega) [Nat.add_assoc, Int.add_assoc, if_pos, if_neg, -Int.not_lt, -Int.not_le, -Nat.not_lt, -Nat.not_le, -List.length_flatMap, y17]
        have hst := z1.stor
        rw [← ht] at z1
        simp +contextual (disch := omega) [Nat.add_assoc, Int.add_assoc, if_pos, if_neg, -Int.not_lt, -Int.not_le, -Nat.not_lt, -Nat.not_le, -List.length_flatMap, z0, g4, g5, g6, g7, q1, q11, q17, hst.1, hst.2.1]
        rw [← List.map_take]
        exact z1.up (by omega) (by omega) (fun j h1 h2 => by simp +contextual (disch := omega) [Nat.add_assoc, Int.add_assoc, if_pos, if_neg, -Int.not_lt, -Int.not_le, -Nat.not_lt, -Nat.not_le, -List.length_flatMap])
      · have e1 : upO f.offs[i] = f.offs[i] := by unfold upO; rw [if_pos (by omega)]
        rw [e1] at ht
        simp +contextual (disch := omega) [Nat.add_assoc, Int.add_assoc, if_pos, if_neg, -Int.not_lt, -Int.not_le, -Nat.not_lt, -Nat.not_le, -List.length_flatMap, ref06_raw.b1, g4, g5, g6, g7, y1, y11, y17, hi, hm, -apV_ns]
        refine gB.ap [f.offs[i]] (fun j h1 h2 => by simp +contextual (disch := omega) [Nat.add_assoc, Int.add_assoc, if_pos, if_neg, -Int.not_lt, -Int.not_le, -Nat.not_lt, -Nat.not_le, -List.length_flatMap]) (by omega) (by omega) rfl rfl (by simp) (by simp; omega) ?_
        intro B' ws m2 z0 z1 z2 z3
        have q1 : m2 1 = some (.cells [.i .i64 0, .ns] false) := by rw [z2 1 (by omega)]; simp +contextual (disch := omega) [Nat.add_assoc, Int.add_assoc, if_pos, if_neg, -Int.not_lt, -Int.not_le, -Nat.not_lt, -Nat.not_le, -List.length_flatMap, y1]
        have q11 : m2 11 = some (.cells (cF f) false) := by rw [z2 11 (by omega)]; simp +contextual (disch := omega) [Nat.add_assoc, Int.add_assoc, if_pos, if_neg, -Int.not_lt, -Int.not_le, -Nat.not_lt, -Nat.not_le, -List.length_flatMap, y11]
        have q17 : m2 17 = some (.cells [.i .i64 (f.cst + 1), B] false) := by rw [z2 17 (by omega)]; simp +contextual (disch := omega) [Nat.add_assoc, Int.add_assoc, if_pos, if_neg, -Int.not_lt, -Int.not_le, -Nat.not_lt, -Nat.not_le, -List.length_flatMap, y17]
        have hst := z1.stor
        rw [← ht] at z1
        simp +contextual (disch := omega) [Nat.add_assoc, Int.add_assoc, if_pos, if_neg, -Int.not_lt, -Int.not_le, -Nat.not_lt, -Nat.not_le, -List.length_flatMap, z0, g4, g5, g6, g7, q1, q11, q17, hst.1, hst.2.1]
        rw [← List.map_take]
        exact z1.up (by omega) (by omega) (fun j h1 h2 => by simp +contextual (disch := omega) [Nat.add_assoc, Int.add_assoc, if_pos, if_neg, -Int.not_lt, -Int.not_le, -Nat.not_lt, -Nat.not_le, -List.length_flatMap])
    · rintro e m x ⟨B, g4, g5, g6, g7, gx, y1, y11, y17, gB⟩
      have hst := gB.stor
      have hfz := (gB.up (m' := m.set 1 (some (.cells [.i .i64 (f.cst + 1), B] false))) (Nat.le_refl _) (Nat.le_refl _) (fun j h1 h2 => by simp +contextual (disch := omega) [Nat.add_assoc, Int.add_assoc, if_pos, if_neg, -Int.not_lt, -Int.not_le, -Nat.not_lt, -Nat.not_le, -List.length_flatMap])).bf.fz24
      rw [List.take_length] at hfz
      simp +contextual (disch := omega) [Nat.add_assoc, Int.add_assoc, if_pos, if_neg, -Int.not_lt, -Int.not_le, -Nat.not_lt, -Nat.not_le, -List.length_flatMap, ref06_raw.b1, g4, g5, g6, g7, y1, y11, y17, hst.1, hst.2.1, hfz]
      rfl
  · rw [hk] at h2
    obtain ⟨k0, k1, hks⟩ := kids2 (l := l) (by rw [h2]; simp [kidsS])
    have m0 : k0 ∈ l.kids := by rw [hks]; simp
    have m1' : k1 ∈ l.kids := by rw [hks]; simp
    have e1 : ofK l.kind l.n zero (l.kids.map fun k => ofS k zero) = joinF (ofS k0 zero) (ofS k1 zero) := by rw [hks]; simp [ofK, hk]
    have b0 := hkb k0 m0
    have b1 := hkb k1 m1'
    rw [e1]
    simp +contextual (disch := omega) [Nat.add_assoc, Int.add_assoc, if_pos, if_neg, -Int.not_lt, -Int.not_le, -Nat.not_lt, -Nat.not_le, -List.length_flatMap, ref06_raw.c, hk, hks, ansK (ih k0 m0 (ok.kid m0) zero (d - 1) hz (by omega) (h4 k0 m0)), ansK (ih k1 m1' (ok.kid m1') zero (d - 1) hz (by omega) (h4 k1 m1')), ansK (ref06_both.a (ofS k0 zero) (ofS k1 zero) (by rw [b0.1, b1.1]) (by rw [b0.1]; omega))]
  · rw [hk] at h2
    obtain ⟨k0, k1, hks⟩ := kids2 (l := l) (by rw [h2]; simp [kidsS])
    have m0 : k0 ∈ l.kids := by rw [hks]; simp
    have m1' : k1 ∈ l.kids := by rw [hks]; simp
    have e1 : ofK l.kind l.n zero (l.kids.map fun k => ofS k zero) = if (ofS k1 zero).cst = 0 ∧ topF (ofS k1 zero) = -1 then ofS k1 zero else joinF (ofS k0 zero) (ofS k1 zero) := by rw [hks]; simp [ofK, hk]
    have b0 := hkb k0 m0
    have b1 := hkb k1 m1'
    rw [e1]
    have hN := ref06_nought.a (ofS k1 zero) (by rw [b1.1]; omega)
    have hni := nought_iff b1
    by_cases c : (ofS k1 zero).cst = 0 ∧ topF (ofS k1 zero) = -1
    · rw [hni.2 c] at hN
      rw [if_pos c]
      simp +contextual (disch := omega) [Nat.add_assoc, Int.add_assoc, if_pos, if_neg, -Int.not_lt, -Int.not_le, -Nat.not_lt, -Nat.not_le, -List.length_flatMap, ref06_raw.c, hk, hks, ansK (ih k1 m1' (ok.kid m1') zero (d - 1) hz (by omega) (h4 k1 m1')), ansK hN]
    · have : noughtF (ofS k1 zero) = false := by rw [← Bool.not_eq_true, hni]; exact c
      rw [this] at hN
      rw [if_neg c]
      simp +contextual (disch := omega) [Nat.add_assoc, Int.add_assoc, if_pos, if_neg, -Int.not_lt, -Int.not_le, -Nat.not_lt, -Nat.not_le, -List.length_flatMap, ref06_raw.c, hk, hks, ansK (ih k0 m0 (ok.kid m0) zero (d - 1) hz (by omega) (h4 k0 m0)), ansK (ih k1 m1' (ok.kid m1') zero (d - 1) hz (by omega) (h4 k1 m1')), ansK hN, ansK (ref06_both.a (ofS k0 zero) (ofS k1 zero) (by rw [b0.1, b1.1]) (by rw [b0.1]; omega))]
  · have hn : 0 ≤ l.n ∧ l.n < zero.length := by simp [namedS, hk] at h3; exact h3
    obtain ⟨q, hq⟩ : ∃ q : Nat, l.n = q := ⟨l.n.toNat, by omega⟩
    have hql : q < zero.length := by omega
    have hgd : zero.getD q true = zero[q] := by simp [hql]
    obtain ⟨U, hU⟩ : ∃ U, U = ofK l.kind l.n zero (l.kids.map fun k => ofS k zero) := ⟨_, rfl⟩
    rw [← hU]
    simp +contextual (disch := omega) [Nat.add_assoc, Int.add_assoc, if_pos, if_neg, -Int.not_lt, -Int.not_le, -Nat.not_lt, -Nat.not_le, -List.length_flatMap, ref06_raw.c, hk]
    rw [CallX_op (by rfl)]
    refine openg_w rfl rfl (.inl rfl) ?_
    rw [hfn]
    refine ref06_none.w 0 zero.length (by omega) ?_
    intro B m1 x1 hx1 hm1 hB
    have hst := hB.stor
    have y0 : m1 0 = some (.cells (cL l) false) := by rw [hm1 0 (by omega)]; simp +contextual (disch := omega) [Nat.add_assoc, Int.add_assoc, if_pos, if_neg, -Int.not_lt, -Int.not_le, -Nat.not_lt, -Nat.not_le, -List.length_flatMap]
    have y1 : m1 1 = some (.cells [.i .i64 0, .ns] false) := by rw [hm1 1 (by omega)]; simp +contextual (disch := omega) [Nat.add_assoc, Int.add_assoc, if_pos, if_neg, -Int.not_lt, -Int.not_le, -Nat.not_lt, -Nat.not_le, -List.length_flatMap]
    have hBz : ∀ M' : Sto, (∀ j, 2 ≤ j → j < x1 → M' j = m1 j) → frzW (der M' 24) B = some (sV cI (List.replicate zero.length (-1)), refOf B) := fun M' h => (hB.up (Nat.le_refl _) (Nat.le_refl _) (fun j h1 h2 => h j (by omega) h2)).bf.fz24
    cases hzq : zero[q] with
    | true =>
      have e1 : ofK l.kind l.n zero (l.kids.map fun k => ofS k zero) = plainF zero.length := by simp [ofK, hk, hq, hgd, hzq, hql]
      rw [e1] at hU
      rw [hU]
      simp +contextual (disch := omega) [Nat.add_assoc, Int.add_assoc, if_pos, if_neg, -Int.not_lt, -Int.not_le, -Nat.not_lt, -Nat.not_le, -List.length_flatMap, y0, y1, hst.1, hst.2.1, hk, hq, hql, hzq]
      rw [hBz _ (fun j h1 h2 => by simp +contextual (disch := omega) [Nat.add_assoc, Int.add_assoc, if_pos, if_neg, -Int.not_lt, -Int.not_le, -Nat.not_lt, -Nat.not_le, -List.length_flatMap])]
      simp +contextual (disch := omega) [Nat.add_assoc, Int.add_assoc, if_pos, if_neg, -Int.not_lt, -Int.not_le, -Nat.not_lt, -Nat.not_le, -List.length_flatMap, cF, plainF]
    | false =>
      have e1 : ofK l.kind l.n zero (l.kids.map fun k => ofS k zero) = ⟨0, (List.replicate zero.length (-1)).set q 0⟩ := by simp [ofK, hk, hq, hgd, hzq, hql]
      rw [e1] at hU
      rw [hU]
      have hlr : (List.replicate zero.length (-1 : Int)).length = zero.length := by simp
      clear hBz
      rcases hB with ⟨_, h⟩ | ⟨a, rfl, g1, g2, g3⟩
      · have := congrArg List.length h; simp at this; rw [this] at hql; simp at hql
      · obtain ⟨R, hR⟩ : ∃ R, R = List.replicate zero.length (-1 : Int) := ⟨_, rfl⟩
        rw [← hR] at g1 hlr hst ⊢
        have hcl : (R.flatMap cI).length = zero.length := by rw [flatI_len, hlr]
        rw [hlr] at hst ⊢
        have hfs := flatI_set (l := R) (j := q) (v := 0) (by omega)
        have hcl2 : ((R.set q 0).flatMap cI).length = zero.length := by rw [flatI_len, List.length_set, hlr]
        have htk := flatI_all (q := R.set q 0) (n := zero.length) (by rw [List.length_set, hlr])
        simp +contextual (disch := omega) [Nat.add_assoc, Int.add_assoc, if_pos, if_neg, -Int.not_lt, -Int.not_le, -Nat.not_lt, -Nat.not_le, -List.length_flatMap, y0, y1, hst.1, hst.2.1, hk, hq, hql, hzq, g1, hcl, hfs, hcl2, htk]
        simp [cF, sV, hlr]
  · simp [namedS, hk] at h3; omega
theorem fmax_thr (l : List Int) (t c : Int) (ht : -1 ≤ t) : (c ≤ l.foldl max t + 1 ∧ 0 ≤ l.foldl max t) ↔ ((c ≤ t + 1 ∧ 0 ≤ t) ∨ ∃ a ∈ l, 0 ≤ a ∧ c ≤ a + 1) := by
  induction l generalizing t with
  | nil => simp
  | cons b l ih =>
    rw [List.foldl_cons, ih (max t b) (by omega)]
    simp only [List.mem_cons, exists_eq_or_imp]
    constructor
    · rintro (h | h)
      · by_cases hb : b ≤ t
        · left; omega
        · right; left; omega
      · exact .inr (.inr h)
    · rintro (h | h | h)
      · left; omega
      · left; omega
      · exact .inr h
def lowO (l : List Int) (c : Int) : Bool := l.any fun a => decide (0 ≤ a) && decide (c ≤ a + 1)
theorem flatten_low {p : Nat} {d : Int} (l : L) (zero : List Bool) (h : Bd p d (ofS l zero)) : flattenF l zero = ⟨if lowO (ofS l zero).offs (ofS l zero).cst = true then 0 else (ofS l zero).cst, (ofS l zero).offs⟩ := by
  have h1 := fmax_thr (ofS l zero).offs (-1) (ofS l zero).cst (by omega)
  have h2 : -1 ≤ topF (ofS l zero) := fmax_ge _ _
  have h3 : lowO (ofS l zero).offs (ofS l zero).cst = true ↔ (∃ a ∈ (ofS l zero).offs, 0 ≤ a ∧ (ofS l zero).cst ≤ a + 1) := by
    unfold lowO
    simp [List.any_eq_true]
  have h4 : (topF (ofS l zero) ≠ -1 ∧ (ofS l zero).cst ≤ topF (ofS l zero) + 1) ↔ lowO (ofS l zero).offs (ofS l zero).cst = true := by
    rw [h3]
    unfold topF at h2 ⊢
    constructor
    · intro h
      rcases h1.1 ⟨h.2, by omega⟩ with h | h
      · omega
      · exact h
    · intro h
      have := h1.2 (.inr h)
      omega
  unfold flattenF
  by_cases hc : topF (ofS l zero) ≠ -1 ∧ (ofS l zero).cst ≤ topF (ofS l zero) + 1
  · rw [if_pos hc, if_pos (h4.1 hc)]
  · rw [if_neg hc, if_neg (fun h => hc (h4.2 h))]
theorem ref06_Flatten.a (l : L) (ok : l.Ok) (zero : List Bool) (hz : zero.length ≤ 1000000) : Ans ctx ref06_Flatten.n [.ag (cL l), sV cB zero] (flattenV l zero) := by
  refine ans ref06_Flatten.f ?_
  have hR := ref02_Right.a l ok zero.length 0
  unfold flattenV
  cases h1 : RightS l zero.length 0 with
  | false =>
    rw [h1] at hR
    simp +contextual (disch := omega) [Nat.add_assoc, Int.add_assoc, if_pos, if_neg, -Int.not_lt, -Int.not_le, -Nat.not_lt, -Nat.not_le, -List.length_flatMap, ref06_Flatten.c, ansK hR]
    rfl
  | true =>
    rw [h1] at hR
    obtain ⟨hp, hr⟩ := RightS_ok (q := 0) h1
    have hbd := ofS_bd l zero 12 hr
    have hI := ref06_raw.a l ok zero 12 hp (by omega) hr
    rw [if_pos rfl, flatten_low l zero hbd]
    obtain ⟨bl, ⟨bc1, bc2⟩, bo⟩ := hbd
    generalize ofS l zero = f at *
    obtain ⟨U, hU⟩ : ∃ U : Int, U = if lowO f.offs f.cst = true then 0 else f.cst := ⟨_, rfl⟩
    rw [← hU]
    simp +contextual (disch := omega) [Nat.add_assoc, Int.add_assoc, if_pos, if_neg, -Int.not_lt, -Int.not_le, -Nat.not_lt, -Nat.not_le, -List.length_flatMap, ref06_Flatten.c, ansK hR, ansK hI]
    refine for_w (fun i e m x => e 4 = .p 1 0 ∧ e 6 = .p 9 0 ∧ e 7 = .i .i64 i ∧ 10 ≤ x ∧ m 1 = some (.cells [.i .i64 0, .ns] false) ∧ m 9 = some (.cells (cF ⟨if lowO (f.offs.take i) f.cst = true then 0 else f.cst, f.offs⟩) false)) f.offs.length ?_ ?_ ?_
    · simp +contextual (disch := omega) [Nat.add_assoc, Int.add_assoc, if_pos, if_neg, -Int.not_lt, -Int.not_le, -Nat.not_lt, -Nat.not_le, -List.length_flatMap, lowO]
    · rintro i e m x hi ⟨g4, g6, g7, gx, y1, y5⟩
      have hoi := bo _ (List.getElem_mem hi)
      have hlo : lowO (f.offs.take (i + 1)) f.cst = (lowO (f.offs.take i) f.cst || (decide (0 ≤ f.offs[i]) && decide (f.cst ≤ f.offs[i] + 1))) := take_any hi
      obtain ⟨c, hc⟩ : ∃ c : Int, c = if lowO (f.offs.take i) f.cst = true then 0 else f.cst := ⟨_, rfl⟩
      obtain ⟨c', hc'⟩ : ∃ c' : Int, c' = if lowO (f.offs.take (i + 1)) f.cst = true then 0 else f.cst := ⟨_, rfl⟩
      rw [← hc] at y5
      rw [← hc']
      have hcb : 0 ≤ c ∧ c ≤ 1000 := by rw [hc]; split <;> omega
      by_cases h2 : 0 ≤ f.offs[i]
      · by_cases h3 : c ≤ f.offs[i] + 1
        · have : c' = 0 := by
            rw [hc', hlo]
            by_cases h5 : lowO (f.offs.take i) f.cst = true
            · simp [h5]
            · rw [if_neg h5] at hc
              simp [h5, h2, ← hc, h3]
          simp +contextual (disch := omega) [Nat.add_assoc, Int.add_assoc, if_pos, if_neg, -Int.not_lt, -Int.not_le, -Nat.not_lt, -Nat.not_le, -List.length_flatMap, ref06_Flatten.b1, g4, g6, g7, y1, y5, hi, h2, h3, this]
          rfl
        · have : c' = c := by
            rw [hc', hlo]
            by_cases h5 : lowO (f.offs.take i) f.cst = true
            · rw [if_pos h5] at hc; omega
            · rw [if_neg h5] at hc
              rw [if_neg (by simp [h5]; omega), hc]
          simp +contextual (disch := omega) [Nat.add_assoc, Int.add_assoc, if_pos, if_neg, -Int.not_lt, -Int.not_le, -Nat.not_lt, -Nat.not_le, -List.length_flatMap, ref06_Flatten.b1, g4, g6, g7, y1, y5, hi, h2, h3, this]
      · have : c' = c := by rw [hc', hlo, hc]; simp [h2]
        simp +contextual (disch := omega) [Nat.add_assoc, Int.add_assoc, if_pos, if_neg, -Int.not_lt, -Int.not_le, -Nat.not_lt, -Nat.not_le, -List.length_flatMap, ref06_Flatten.b1, g4, g6, g7, y1, y5, hi, h2, this]
    · rintro e m x ⟨g4, g6, g7, gx, y1, y5⟩
      rw [List.take_length, ← hU] at y5
      simp +contextual (disch := omega) [Nat.add_assoc, Int.add_assoc, if_pos, if_neg, -Int.not_lt, -Int.not_le, -Nat.not_lt, -Nat.not_le, -List.length_flatMap, ref06_Flatten.b1, g4, g6, g7, y1, y5]
end Pi


set_option linter.unusedSimpArgs false
set_option linter.unusedVariables false
namespace Pi
def okA (vars : Int) (a : A) : Bool := decide (0 ≤ a.var) && decide (a.var < vars) && decide (0 ≤ a.off) && decide (a.off ≤ 1000)
def manyC (c : C) : Bool := decide ((c.frm.length : Int) < 1) || decide (6 < (c.frm.length : Int))
def okC (vars : Int) (c : C) : Bool := !manyC c && (c.frm ++ [c.to]).all (okA vars)
def rightC (vars : Int) (l : List C) : Bool := decide (1 ≤ vars) && decide (vars ≤ 16) && decide ((l.length : Int) ≤ 60) && l.all (okC vars)
/-- What an atom is, by a model. -/
def atS (model : List Int) (a : A) : Int := model.getD a.var.toNat 0 - a.off
def minS (model : List Int) (l : List A) : Int := (l.map (atS model)).foldl min (atS model (l.getD 0 default))
def asksS (model : List Int) (c : C) : Int := minS model c.frm + c.to.off
def brokenC (model : List Int) (c : C) : Bool := decide (model.getD c.to.var.toNat 0 < asksS model c)
/-- By how much a clause asks for more, at most. -/
def mostS (l : List C) : Int := l.foldl (fun n c => c.frm.foldl (fun n a => max n (c.to.off - a.off)) n) 0
theorem mostS_nonneg (l : List C) : 0 ≤ mostS l := by
  unfold mostS
  refine fold_inv (P := fun n : Int => 0 ≤ n) ?_ (by omega)
  intro b c _ hb
  refine fold_inv (P := fun n : Int => 0 ≤ n) ?_ hb
  intro b a _ hb
  omega
end Pi


set_option linter.unusedSimpArgs false
set_option linter.unusedVariables false
namespace Pi
theorem fold_min_le (l : List Int) : ∀ b : Int, l.foldl min b ≤ b ∧ ∀ x ∈ l, l.foldl min b ≤ x := by
  induction l with
  | nil => intro b; simp
  | cons a r ih =>
    intro b
    simp only [List.foldl_cons]
    have h := ih (min b a)
    refine ⟨by omega, fun x hx => ?_⟩
    simp at hx
    rcases hx with rfl | hx
    · omega
    · exact h.2 x hx
theorem fold_min_mem (l : List Int) : ∀ b : Int, l.foldl min b = b ∨ l.foldl min b ∈ l := by
  induction l with
  | nil => intro b; simp
  | cons a r ih =>
    intro b
    simp only [List.foldl_cons, List.mem_cons]
    rcases ih (min b a) with h | h
    · rw [h]; omega
    · exact .inr (.inr h)
theorem minS_le (m : List Int) (l : List A) (a : A) (h : a ∈ l) : minS m l ≤ atS m a := (fold_min_le _ _).2 _ (List.mem_map_of_mem h)
theorem minS_mem (m : List Int) (l : List A) (h : l ≠ []) : ∃ a ∈ l, minS m l = atS m a := by
  rcases fold_min_mem (l.map (atS m)) (atS m (l.getD 0 default)) with h1 | h1
  · cases l with
    | nil => exact absurd rfl h
    | cons a r => exact ⟨a, by simp, h1⟩
  · obtain ⟨a, h2, h3⟩ := List.mem_map.1 h1
    exact ⟨a, h2, h3.symm⟩
theorem holds_at {m : List Int} {c : C} : brokenC m c = false ↔ asksS m c ≤ m.getD c.to.var.toNat 0 := by
  unfold brokenC
  simp only [decide_eq_false_iff_not]
  omega
theorem okC_ne {vars : Int} {c : C} (h : okC vars c = true) : c.frm ≠ [] := by
  intro h0
  unfold okC at h
  simp [manyC, h0] at h
theorem okC_six {vars : Int} {c : C} (h : okC vars c = true) : c.frm.length ≤ 6 := by
  simp [okC, manyC] at h
  omega
theorem okC_to {vars : Int} {c : C} (h : okC vars c = true) : 0 ≤ c.to.var ∧ c.to.var < vars ∧ 0 ≤ c.to.off ∧ c.to.off ≤ 1000 := by
  unfold okC at h
  simp only [Bool.and_eq_true, List.all_eq_true] at h
  have := h.2 c.to (by simp)
  simp only [okA, Bool.and_eq_true, decide_eq_true_eq] at this
  omega
theorem okC_frm {vars : Int} {c : C} (h : okC vars c = true) {a : A} (ha : a ∈ c.frm) : 0 ≤ a.var ∧ a.var < vars ∧ 0 ≤ a.off ∧ a.off ≤ 1000 := by
  unfold okC at h
  simp only [Bool.and_eq_true, List.all_eq_true] at h
  have := h.2 a (by simp [ha])
  simp only [okA, Bool.and_eq_true, decide_eq_true_eq] at this
  omega
/-- Models with as much more each: what is broken is the same. -/
theorem broken_up {vars : Nat} (m up : List Int) (c : C) (k : Int) (h : okC vars c = true) (hu : ∀ i, i < vars → up.getD i 0 = m.getD i 0 + k) : brokenC up c = brokenC m c := by
  unfold okC at h
  simp only [Bool.and_eq_true, Bool.not_eq_true', List.all_eq_true] at h
  obtain ⟨h1, h2⟩ := h
  have hne : c.frm ≠ [] := by
    intro h0
    rw [manyC, h0] at h1
    simp at h1
  have hat : ∀ a ∈ c.frm ++ [c.to], atS up a = atS m a + k := by
    intro a ha
    have := h2 a ha
    simp only [okA, Bool.and_eq_true, decide_eq_true_eq] at this
    have := hu a.var.toNat (by omega)
    unfold atS
    omega
  have hto := h2 c.to (by simp)
  simp only [okA, Bool.and_eq_true, decide_eq_true_eq] at hto
  have hto2 := hu c.to.var.toNat (by omega)
  have hmin : minS up c.frm = minS m c.frm + k := by
    obtain ⟨a, a1, a2⟩ := minS_mem up c.frm hne
    obtain ⟨b, b1, b2⟩ := minS_mem m c.frm hne
    have := minS_le up c.frm b b1
    have := minS_le m c.frm a a1
    have := hat a (by simp [a1])
    have := hat b (by simp [b1])
    omega
  unfold brokenC asksS
  rw [hto2, hmin]
  congr 1
  apply propext
  omega
end Pi


set_option linter.unusedSimpArgs false
set_option linter.unusedVariables false
namespace Pi
end Pi


set_option linter.unusedSimpArgs false
set_option linter.unusedVariables false
namespace Pi
theorem slices_IndexFunc_Clause.a (l : List C) (g : Nat) (caps : List V) (p : C → Bool) (hg : (ctx.opn g || ctx.frz g) = false) (hpr : ctx.prim g = none) (hc : ∀ D, frzL D caps = some (caps, [])) (h : ∀ k ∈ l, Ans ctx g ((.ag (cC k)) :: caps) (.b (p k))) (hl : l.length ≤ 9223372036854775807) :
    Ans ctx slices_IndexFunc_Clause.n [sV cC l, .fn (.func g) [] caps] (.i .i64 (idxS p l)) := by
  refine ans slices_IndexFunc_Clause.f ?_
  simp +contextual (disch := omega) [Nat.add_assoc, Int.add_assoc, if_pos, if_neg, -Int.not_lt, -Int.not_le, -Nat.not_lt, -Nat.not_le, -List.length_flatMap, slices_IndexFunc_Clause.c]
  refine for_w (fun i e m x => e 0 = sV cC l ∧ e 1 = .fn (.func g) [] caps ∧ e 7 = .i .i64 l.length ∧ e 8 = .i .i64 i ∧ (l.take i).all (fun a => !p a) = true) l.length ?_ ?_ ?_
  · simp +contextual (disch := omega) [Nat.add_assoc, Int.add_assoc, if_pos, if_neg, -Int.not_lt, -Int.not_le, -Nat.not_lt, -Nat.not_le, -List.length_flatMap]
  · rintro i e m x hi ⟨g1, g2, g3, g4, g5⟩
    have hk := h l[i] (List.getElem_mem hi)
    obtain ⟨q1, q2⟩ := idx_take hi g5
    cases hp : p l[i] with
    | true =>
      rw [hp] at hk
      simp +contextual (disch := omega) [Nat.add_assoc, Int.add_assoc, if_pos, if_neg, -Int.not_lt, -Int.not_le, -Nat.not_lt, -Nat.not_le, -List.length_flatMap, slices_IndexFunc_Clause.b1, g1, g2, g3, g4, hi, CallX_cl (C := ctx) (g := g) hpr (orF hg).1 (orF hg).2, hc, ansK hk, q1 hp]
    | false =>
      rw [hp] at hk
      simp +contextual (disch := omega) [Nat.add_assoc, Int.add_assoc, if_pos, if_neg, -Int.not_lt, -Int.not_le, -Nat.not_lt, -Nat.not_le, -List.length_flatMap, slices_IndexFunc_Clause.b1, g1, g2, g3, g4, hi, CallX_cl (C := ctx) (g := g) hpr (orF hg).1 (orF hg).2, hc, ansK hk, q2 hp]
  · rintro e m x ⟨g1, g2, g3, g4, g5⟩
    rw [List.take_length] at g5
    simp +contextual (disch := omega) [Nat.add_assoc, Int.add_assoc, if_pos, if_neg, -Int.not_lt, -Int.not_le, -Nat.not_lt, -Nat.not_le, -List.length_flatMap, slices_IndexFunc_Clause.b1, g1, g2, g3, g4, idx_all g5]
theorem slices_ContainsFunc_Clause.a (l : List C) (g : Nat) (caps : List V) (p : C → Bool) (hg : (ctx.opn g || ctx.frz g) = false) (hpr : ctx.prim g = none) (hc : ∀ D, frzL D caps = some (caps, [])) (h : ∀ k ∈ l, Ans ctx g ((.ag (cC k)) :: caps) (.b (p k))) (hl : l.length ≤ 9223372036854775807) :
    Ans ctx slices_ContainsFunc_Clause.n [sV cC l, .fn (.func g) [] caps] (.b (l.any p)) := by
  refine ans slices_ContainsFunc_Clause.f ?_
  simp +contextual (disch := omega) [Nat.add_assoc, Int.add_assoc, if_pos, if_neg, -Int.not_lt, -Int.not_le, -Nat.not_lt, -Nat.not_le, -List.length_flatMap, slices_ContainsFunc_Clause.c, hc, ansK (slices_IndexFunc_Clause.a l g caps p hg hpr hc h hl), idx_ge]
/-- Room for as many, behind no slice. -/
theorem grow_Atom.w {m : Sto} {x : Nat} {n : Int} {K : CR → Sto → Nat → Prop} (hn : 0 ≤ n ∧ n ≤ 2147483648)
    (hK : ∀ B m' x', x ≤ x' → Bf m' B cA 2 [] x x' → (∀ j, j < x → m' j = m j) → K (.ret B) m' x') :
    wpCall ctx (.fn (.func slices_Grow_Atom.n) [] []) [.ns, .i .i64 n] m x K := by
  refine openg_w slices_Grow_Atom.f rfl (.inl rfl) ?_
  by_cases h0 : n = 0
  · subst h0
    simp +contextual (disch := omega) [Nat.add_assoc, Int.add_assoc, if_pos, if_neg, -Int.not_lt, -Int.not_le, -Nat.not_lt, -Nat.not_le, -List.length_flatMap, slices_Grow_Atom.c]
    exact hK .ns m _ (by omega) .nil (fun _ _ => rfl)
  · simp +contextual (disch := omega) [Nat.add_assoc, Int.add_assoc, if_pos, if_neg, -Int.not_lt, -Int.not_le, -Nat.not_lt, -Nat.not_le, -List.length_flatMap, slices_Grow_Atom.c]
    exact hK _ _ _ (by omega) (.memr (cs := zeros ([V.i .i64 0, V.i .i64 0]) n.toNat) (by simp) ⟨by simp, by simp, fun D => frzL_zeros (by simp) D _⟩ rfl (by omega) (by omega)) (by simp +contextual (disch := omega) [Nat.add_assoc, Int.add_assoc, if_pos, if_neg, -Int.not_lt, -Int.not_le, -Nat.not_lt, -Nat.not_le, -List.length_flatMap])
theorem slices_Concat_Atom.a (a b : List A) (h : a.length + b.length ≤ 1000000) : Ans ctx slices_Concat_Atom.n [.sl [sV cA a, sV cA b] 2] (sV cA (a ++ b)) := by
  refine ans slices_Concat_Atom.f ?_
  simp +contextual (disch := omega) [Nat.add_assoc, Int.add_assoc, if_pos, if_neg, -Int.not_lt, -Int.not_le, -Nat.not_lt, -Nat.not_le, -List.length_flatMap, slices_Concat_Atom.c]
  refine un_w ?_
  simp +contextual (disch := omega) [Nat.add_assoc, Int.add_assoc, if_pos, if_neg, -Int.not_lt, -Int.not_le, -Nat.not_lt, -Nat.not_le, -List.length_flatMap, slices_Concat_Atom.b1]
  refine un_w ?_
  simp +contextual (disch := omega) [Nat.add_assoc, Int.add_assoc, if_pos, if_neg, -Int.not_lt, -Int.not_le, -Nat.not_lt, -Nat.not_le, -List.length_flatMap, slices_Concat_Atom.b1]
  refine un_w ?_
  simp +contextual (disch := omega) [Nat.add_assoc, Int.add_assoc, if_pos, if_neg, -Int.not_lt, -Int.not_le, -Nat.not_lt, -Nat.not_le, -List.length_flatMap, slices_Concat_Atom.b1]
  refine grow_Atom.w (by omega) ?_
  intro B m' x' h1 h2 h3
  simp +contextual (disch := omega) [Nat.add_assoc, Int.add_assoc, if_pos, if_neg, -Int.not_lt, -Int.not_le, -Nat.not_lt, -Nat.not_le, -List.length_flatMap]
  refine un_w ?_
  simp +contextual (disch := omega) [Nat.add_assoc, Int.add_assoc, if_pos, if_neg, -Int.not_lt, -Int.not_le, -Nat.not_lt, -Nat.not_le, -List.length_flatMap, slices_Concat_Atom.b2]
  refine h2.ap a (by simp +contextual (disch := omega) [Nat.add_assoc, Int.add_assoc, if_pos, if_neg, -Int.not_lt, -Int.not_le, -Nat.not_lt, -Nat.not_le, -List.length_flatMap]) (by omega) (by omega) rfl rfl (by simp; omega) ?_
  intro B' ws m2 q0 q1 q2 q3
  simp +contextual (disch := omega) [Nat.add_assoc, Int.add_assoc, if_pos, if_neg, -Int.not_lt, -Int.not_le, -Nat.not_lt, -Nat.not_le, -List.length_flatMap, q0]
  refine un_w ?_
  simp +contextual (disch := omega) [Nat.add_assoc, Int.add_assoc, if_pos, if_neg, -Int.not_lt, -Int.not_le, -Nat.not_lt, -Nat.not_le, -List.length_flatMap, slices_Concat_Atom.b2]
  refine q1.ap b (by simp +contextual (disch := omega) [Nat.add_assoc, Int.add_assoc, if_pos, if_neg, -Int.not_lt, -Int.not_le, -Nat.not_lt, -Nat.not_le, -List.length_flatMap]) (by omega) (by omega) rfl rfl (by simp; omega) ?_
  intro B2 ws2 m3 p0 p1 p2 p3
  simp +contextual (disch := omega) [Nat.add_assoc, Int.add_assoc, if_pos, if_neg, -Int.not_lt, -Int.not_le, -Nat.not_lt, -Nat.not_le, -List.length_flatMap, p0]
  refine un_w ?_
  have hz := p1.fz24
  simp +contextual (disch := omega) [Nat.add_assoc, Int.add_assoc, if_pos, if_neg, -Int.not_lt, -Int.not_le, -Nat.not_lt, -Nat.not_le, -List.length_flatMap, slices_Concat_Atom.b2, hz]
def atomsC (c : C) : List A := c.frm ++ [c.to]
theorem atoms_w {l : List C} (hl : l.length ≤ 1000000) (hf : ∀ c ∈ l, c.frm.length ≤ 100000) {ll x0 : Nat} {m : Sto} {K : CR → Sto → Nat → Prop} (I : Nat → Nat → Sto → Prop) (E : Sto → Prop)
    (fr : ∀ i k m m', I i k m → (∀ j, j < x0 → m' j = m j) → I i k m') (h0 : I 0 0 m)
    (hs : ∀ (i : Nat) (hi : i < l.length) (k : Nat) (hk : k < (atomsC l[i]).length) m x K', x0 ≤ x → I i k m → (∀ m' x', x ≤ x' → I i (k + 1) m' → K' (.ret (.b true)) m' x') → (∀ m' x', x ≤ x' → E m' → K' (.ret (.b false)) m' x') →
      wpCall ctx (.fn (.yield ll) [] []) [.i .i64 i, .ag (cA (atomsC l[i])[k])] m x K')
    (hr : ∀ (i : Nat) (hi : i < l.length) m, I i (atomsC l[i]).length m → I (i + 1) 0 m)
    (hd : ∀ m' x', x0 ≤ x' → I l.length 0 m' → K (.ret (.tu [])) m' x') (he : ∀ m' x', x0 ≤ x' → E m' → K (.ret (.tu [])) m' x') :
    wpCall ctx (.fn (.func horn_atoms_1.n) [] [.rp [sV cC l]]) [.fn (.yield ll) [] []] m x0 K := by
  refine openg_w horn_atoms_1.f rfl (.inr (by simp +contextual (disch := omega) [Nat.add_assoc, Int.add_assoc, if_pos, if_neg, -Int.not_lt, -Int.not_le, -Nat.not_lt, -Nat.not_le, -List.length_flatMap])) ?_
  simp +contextual (disch := omega) [Nat.add_assoc, Int.add_assoc, if_pos, if_neg, -Int.not_lt, -Int.not_le, -Nat.not_lt, -Nat.not_le, -List.length_flatMap, horn_atoms_1.c]
  refine for_w (fun i e m x => e 0 = .fn (.yield ll) [] [] ∧ e 7 = sV cC l ∧ e 8 = .i .i64 l.length ∧ e 9 = .i .i64 i ∧ x0 ≤ x ∧ I i 0 m) l.length ?_ ?_ ?_
  · simp +contextual (disch := omega) [Nat.add_assoc, Int.add_assoc, if_pos, if_neg, -Int.not_lt, -Int.not_le, -Nat.not_lt, -Nat.not_le, -List.length_flatMap]
    exact h0
  · rintro i e m x hi ⟨g1, g2, g3, g4, g5, g6⟩
    have hfi := hf l[i] (List.getElem_mem hi)
    have hal : (atomsC l[i]).length = l[i].frm.length + 1 := by simp [atomsC]
    have hcat := slices_Concat_Atom.a l[i].frm [l[i].to] (by simp; omega)
    have hc1 : sV cA [l[i].to] = .sl (cA l[i].to) 1 := rfl
    rw [hc1] at hcat
    simp +contextual (disch := omega) [Nat.add_assoc, Int.add_assoc, if_pos, if_neg, -Int.not_lt, -Int.not_le, -Nat.not_lt, -Nat.not_le, -List.length_flatMap, horn_atoms_1.b2, g1, g2, g3, g4, hi, ansK hcat]
    have hg : ∀ m', (∀ j, j < x0 → m' j = m j) → I i 0 m' := fun m' h => fr _ _ _ _ g6 h
    refine for_w (fun k e m x => e 0 = .fn (.yield ll) [] [] ∧ e 3 = .i .i64 i ∧ e 7 = sV cC l ∧ e 8 = .i .i64 l.length ∧ e 9 = .i .i64 i ∧ e 20 = sV cA (atomsC l[i]) ∧ e 21 = .i .i64 (atomsC l[i]).length ∧ e 22 = .i .i64 k ∧ x0 ≤ x ∧ I i k m) (atomsC l[i]).length ?_ ?_ ?_
    · simp +contextual (disch := omega) [Nat.add_assoc, Int.add_assoc, if_pos, if_neg, -Int.not_lt, -Int.not_le, -Nat.not_lt, -Nat.not_le, -List.length_flatMap, g1, g2, g3, g4]
      refine ⟨rfl, by simp [atomsC], by omega, hg _ (by simp +contextual (disch := omega) [Nat.add_assoc, Int.add_assoc, if_pos, if_neg, -Int.not_lt, -Int.not_le, -Nat.not_lt, -Nat.not_le, -List.length_flatMap])⟩
    · rintro k e m x hk ⟨q1, q2, q3, q4, q5, q6, q7, q8, q9, q10⟩
      simp +contextual (disch := omega) [Nat.add_assoc, Int.add_assoc, if_pos, if_neg, -Int.not_lt, -Int.not_le, -Nat.not_lt, -Nat.not_le, -List.length_flatMap, horn_atoms_1.b1, q1, q2, q3, q4, q5, q6, q7, q8, hk]
      refine hs i hi k hk _ _ _ (by omega) (fr _ _ _ _ q10 (by simp +contextual (disch := omega) [Nat.add_assoc, Int.add_assoc, if_pos, if_neg, -Int.not_lt, -Int.not_le, -Nat.not_lt, -Nat.not_le, -List.length_flatMap])) ?_ ?_
      · intro m' x' p1 p2
        simp +contextual (disch := omega) [Nat.add_assoc, Int.add_assoc, if_pos, if_neg, -Int.not_lt, -Int.not_le, -Nat.not_lt, -Nat.not_le, -List.length_flatMap, q1, q2, q3, q4, q5, q6, q7, q8]
        exact ⟨by omega, p2⟩
      · intro m' x' p1 p2
        simp +contextual (disch := omega) [Nat.add_assoc, Int.add_assoc, if_pos, if_neg, -Int.not_lt, -Int.not_le, -Nat.not_lt, -Nat.not_le, -List.length_flatMap]
        exact he _ _ (by omega) p2
    · rintro e m x ⟨q1, q2, q3, q4, q5, q6, q7, q8, q9, q10⟩
      simp +contextual (disch := omega) [Nat.add_assoc, Int.add_assoc, if_pos, if_neg, -Int.not_lt, -Int.not_le, -Nat.not_lt, -Nat.not_le, -List.length_flatMap, horn_atoms_1.b1, q1, q2, q3, q4, q5, q6, q7, q8]
      exact ⟨by omega, hr i hi _ q10⟩
  · rintro e m x ⟨g1, g2, g3, g4, g5, g6⟩
    simp +contextual (disch := omega) [Nat.add_assoc, Int.add_assoc, if_pos, if_neg, -Int.not_lt, -Int.not_le, -Nat.not_lt, -Nat.not_le, -List.length_flatMap, horn_atoms_1.b2, g1, g2, g3, g4]
    exact hd _ _ (by omega) g6
theorem horn_atoms.a (l : List C) : Ans ctx horn_atoms.n [sV cC l] (.fn (.func horn_atoms_1.n) [] [.rp [sV cC l]]) := by
  refine ans horn_atoms.f ?_
  simp +contextual (disch := omega) [Nat.add_assoc, Int.add_assoc, if_pos, if_neg, -Int.not_lt, -Int.not_le, -Nat.not_lt, -Nat.not_le, -List.length_flatMap, horn_atoms.c]
theorem horn_Right_1.a (c : C) (h : c.frm.length ≤ 9223372036854775807) : Ans ctx horn_Right_1.n [.ag (cC c)] (.b (manyC c)) := by
  refine ans horn_Right_1.f ?_
  simp +contextual (disch := omega) [Nat.add_assoc, Int.add_assoc, if_pos, if_neg, -Int.not_lt, -Int.not_le, -Nat.not_lt, -Nat.not_le, -List.length_flatMap, horn_Right_1.c, manyC]
theorem okC_atoms (vars : Int) (c : C) : okC vars c = (!manyC c && (atomsC c).all (okA vars)) := rfl
theorem horn_Right.a (vars : Int) (l : List C) (hl : l.length ≤ 9223372036854775807) (hf : ∀ c ∈ l, c.frm.length ≤ 9223372036854775807) : Ans ctx horn_Right.n [.i .i64 vars, sV cC l] (.b (rightC vars l)) := by
  refine ans horn_Right.f ?_
  have hcf := slices_ContainsFunc_Clause.a l horn_Right_1.n [] manyC rfl rfl (by simp) (fun c hc => horn_Right_1.a c (hf c hc)) (by omega)
  by_cases h1 : vars < 1
  · have e : rightC vars l = false := by simp [rightC]; omega
    simp +contextual (disch := omega) [Nat.add_assoc, Int.add_assoc, if_pos, if_neg, -Int.not_lt, -Int.not_le, -Nat.not_lt, -Nat.not_le, -List.length_flatMap, horn_Right.c, e]
  by_cases h2 : 16 < vars
  · have e : rightC vars l = false := by simp [rightC]; omega
    simp +contextual (disch := omega) [Nat.add_assoc, Int.add_assoc, if_pos, if_neg, -Int.not_lt, -Int.not_le, -Nat.not_lt, -Nat.not_le, -List.length_flatMap, horn_Right.c, e]
  by_cases h3 : 60 < l.length
  · have e : rightC vars l = false := by simp [rightC]; omega
    simp +contextual (disch := omega) [Nat.add_assoc, Int.add_assoc, if_pos, if_neg, -Int.not_lt, -Int.not_le, -Nat.not_lt, -Nat.not_le, -List.length_flatMap, horn_Right.c, e]
  have er : rightC vars l = l.all (okC vars) := by simp [rightC]; omega
  cases hm : l.any manyC with
  | true =>
    have e : rightC vars l = false := by
      rw [er, List.all_eq_false]
      obtain ⟨c, c1, c2⟩ := List.any_eq_true.1 hm
      exact ⟨c, c1, by simp [okC, c2]⟩
    rw [hm] at hcf
    simp +contextual (disch := omega) [Nat.add_assoc, Int.add_assoc, if_pos, if_neg, -Int.not_lt, -Int.not_le, -Nat.not_lt, -Nat.not_le, -List.length_flatMap, horn_Right.c, e, ansK hcf]
  | false =>
    have e2 : l.all (okC vars) = l.all fun c => (atomsC c).all (okA vars) := by
      rw [Bool.eq_iff_iff]
      simp only [List.all_eq_true]
      have hm' := List.any_eq_false.1 hm
      exact ⟨fun h c hc => by have := h c hc; rw [okC_atoms] at this; simp at this; simpa using this.2, fun h c hc => by rw [okC_atoms]; have := hm' c hc; simp at this; simpa [this] using h c hc⟩
    have hs6 : ∀ c ∈ l, c.frm.length ≤ 100000 := fun c hc => by
      have := List.any_eq_false.1 hm c hc
      simp [manyC] at this
      omega
    rw [hm] at hcf
    simp +contextual (disch := omega) [Nat.add_assoc, Int.add_assoc, if_pos, if_neg, -Int.not_lt, -Int.not_le, -Nat.not_lt, -Nat.not_le, -List.length_flatMap, horn_Right.c, ansK hcf, ansK (horn_atoms.a l)]
    rw [er, e2]
    refine gen_e (fun E => E 2 = .p 0 0 ∧ E 4 = .p 1 0 ∧ E 25 = .fn (.func horn_atoms_1.n) [] [.rp [sV cC l]]) (by simp +contextual (disch := omega) [Nat.add_assoc, Int.add_assoc, if_pos, if_neg, -Int.not_lt, -Int.not_le, -Nat.not_lt, -Nat.not_le, -List.length_flatMap]) ?_
    rintro E ⟨E1, E2, E3⟩
    refine rf_g fun A B hA hB => ?_
    simp +contextual (disch := omega) [Nat.add_assoc, Int.add_assoc, if_pos, if_neg, -Int.not_lt, -Int.not_le, -Nat.not_lt, -Nat.not_le, -List.length_flatMap, E3]
    refine atoms_w (by omega) hs6 (fun i k m => m 19 = some .dfr ∧ m 20 = some (.loop ⟨E, [26, 27], A, B, .ready, none⟩) ∧ m 0 = some (.cells [.i .i64 vars] false) ∧ m 1 = some (.cells [.b false] false) ∧
        (l.take i).all (fun c => (atomsC c).all (okA vars)) = true ∧ ∀ (hi : i < l.length), ((atomsC l[i]).take k).all (okA vars) = true)
      (fun m => m 19 = some .dfr ∧ m 20 = some (.loop ⟨E, [26, 27], A, B, .done, some .ret⟩) ∧ m 1 = some (.cells [.b false] false) ∧ l.all (fun c => (atomsC c).all (okA vars)) = false) ?_ ?_ ?_ ?_ ?_ ?_
    · rintro i k m m' ⟨q1, q2, q3, q4, q5, q6⟩ h
      exact ⟨(h _ (by omega)).trans q1, (h _ (by omega)).trans q2, (h _ (by omega)).trans q3, (h _ (by omega)).trans q4, q5, q6⟩
    · simp +contextual (disch := omega) [Nat.add_assoc, Int.add_assoc, if_pos, if_neg, -Int.not_lt, -Int.not_le, -Nat.not_lt, -Nat.not_le, -List.length_flatMap]
    · rintro i hi k hk m x K' hx ⟨q1, q2, q3, q4, q5, q6⟩ ht hf'
      have q6 := q6 hi
      refine yield_w q2 rfl rfl ?_
      generalize ha : (atomsC l[i])[k] = a
      cases hok : okA vars a with
      | true =>
        have hok' := hok
        simp only [okA, Bool.and_eq_true, decide_eq_true_eq] at hok'
        refine w_as hA ?_
        simp +contextual (disch := omega) [Nat.add_assoc, Int.add_assoc, if_pos, if_neg, -Int.not_lt, -Int.not_le, -Nat.not_lt, -Nat.not_le, -List.length_flatMap, horn_Right.a1, q2]
        refine w_as hB ?_
        simp +contextual (disch := omega) [Nat.add_assoc, Int.add_assoc, if_pos, if_neg, -Int.not_lt, -Int.not_le, -Nat.not_lt, -Nat.not_le, -List.length_flatMap, horn_Right.b2, q1, q2, q3, q4, E1, E2]
        refine ht _ _ (by omega) ?_
        simp +contextual (disch := omega) [Nat.add_assoc, Int.add_assoc, if_pos, if_neg, -Int.not_lt, -Int.not_le, -Nat.not_lt, -Nat.not_le, -List.length_flatMap, q1, q2, q3, q4, q5, take_all hk q6 (ha ▸ hok)]
      | false =>
        have hok' : a.var < 0 ∨ (0 ≤ a.var ∧ vars ≤ a.var) ∨ (0 ≤ a.var ∧ a.var < vars ∧ a.off < 0) ∨ (0 ≤ a.var ∧ a.var < vars ∧ 0 ≤ a.off ∧ 1000 < a.off) := by
          simp [okA] at hok; omega
        have hbad : l.all (fun c => (atomsC c).all (okA vars)) = false := by
          rw [List.all_eq_false]
          refine ⟨l[i], List.getElem_mem hi, ?_⟩
          have : (atomsC l[i]).all (okA vars) = false := List.all_eq_false.2 ⟨_, List.getElem_mem hk, by rw [ha, hok]; simp⟩
          simp [this]
        refine w_as hA ?_
        simp +contextual (disch := omega) [Nat.add_assoc, Int.add_assoc, if_pos, if_neg, -Int.not_lt, -Int.not_le, -Nat.not_lt, -Nat.not_le, -List.length_flatMap, horn_Right.a1, q2]
        refine w_as hB ?_
        rcases hok' with h | h | h | h
        all_goals (simp +contextual (disch := omega) [Nat.add_assoc, Int.add_assoc, if_pos, if_neg, -Int.not_lt, -Int.not_le, -Nat.not_lt, -Nat.not_le, -List.length_flatMap, horn_Right.b2, q1, q2, q3, q4, E1, E2])
        all_goals (refine hf' _ _ (by omega) ?_; simp +contextual (disch := omega) [Nat.add_assoc, Int.add_assoc, if_pos, if_neg, -Int.not_lt, -Int.not_le, -Nat.not_lt, -Nat.not_le, -List.length_flatMap, q1, hbad])
    · rintro i hi m ⟨q1, q2, q3, q4, q5, q6⟩
      have q6 := q6 hi
      rw [List.take_length] at q6
      exact ⟨q1, q2, q3, q4, take_all hi q5 q6, fun h => by simp⟩
    · rintro m' x' hx ⟨q1, q2, q3, q4, q5, q6⟩
      rw [List.take_length] at q5
      simp +contextual (disch := omega) [Nat.add_assoc, Int.add_assoc, if_pos, if_neg, -Int.not_lt, -Int.not_le, -Nat.not_lt, -Nat.not_le, -List.length_flatMap, q1, q2, q3, q4, E2, q5]
    · rintro m' x' hx ⟨q1, q2, q3, q4⟩
      simp +contextual (disch := omega) [Nat.add_assoc, Int.add_assoc, if_pos, if_neg, -Int.not_lt, -Int.not_le, -Nat.not_lt, -Nat.not_le, -List.length_flatMap, q1, q2, q3, q4, E2]
end Pi


set_option linter.unusedSimpArgs false
set_option linter.unusedVariables false
namespace Pi
/-- The first atom that is the least, by a model. -/
def minA (f : A → Int) (l : List A) : A := l.foldl (fun m a => if f a < f m then a else m) (l.getD 0 default)
theorem minA_f (f : A → Int) (l : List A) : f (minA f l) = (l.map f).foldl min (f (l.getD 0 default)) := by
  unfold minA
  generalize l.getD 0 default = b
  induction l generalizing b with
  | nil => rfl
  | cons a r ih =>
    simp only [List.foldl_cons, List.map_cons]
    rw [ih]
    congr 1
    split <;> omega
theorem minA_mem (f : A → Int) (l : List A) (h : l ≠ []) : minA f l ∈ l := by
  have key : ∀ (r : List A) (b : A), r.foldl (fun m a => if f a < f m then a else m) b = b ∨ r.foldl (fun m a => if f a < f m then a else m) b ∈ r := by
    intro r
    induction r with
    | nil => intro b; exact .inl rfl
    | cons a r ih =>
      intro b
      simp only [List.foldl_cons]
      rcases ih (if f a < f b then a else b) with h1 | h1
      · rw [h1]
        split
        · exact .inr (by simp)
        · exact .inl rfl
      · exact .inr (by simp [h1])
  cases l with
  | nil => exact absurd rfl h
  | cons a r =>
    rcases key (a :: r) a with h1 | h1
    · unfold minA; simp only [List.getD_cons_zero]; rw [h1]; simp
    · unfold minA; simp only [List.getD_cons_zero]; exact h1
theorem slices_MinFunc_Atom.a (l : List A) (g : Nat) (caps : List V) (f : A → Int) (hg : (ctx.opn g || ctx.frz g) = false) (hpr : ctx.prim g = none) (hc : ∀ D, frzL D caps = some (caps, [])) (h : ∀ a ∈ l, ∀ b ∈ l, Ans ctx g (.ag (cA a) :: .ag (cA b) :: caps) (.i .i64 (f a - f b)))
    (hne : l ≠ []) (hl : l.length ≤ 1000000) : Ans ctx slices_MinFunc_Atom.n [sV cA l, .fn (.func g) [] caps] (.ag (cA (minA f l))) := by
  refine ans slices_MinFunc_Atom.f ?_
  have h0 : 0 < l.length := List.length_pos_iff.2 hne
  have e0 : l.getD 0 default = l[0] := by simp [h0]
  simp +contextual (disch := omega) [Nat.add_assoc, Int.add_assoc, if_pos, if_neg, -Int.not_lt, -Int.not_le, -Nat.not_lt, -Nat.not_le, -List.length_flatMap, slices_MinFunc_Atom.c, h0]
  have fo : ∀ i (hi : i < l.length), (l.take (i + 1)).foldl (fun m a => if f a < f m then a else m) l[0] = (if f l[i] < f ((l.take i).foldl (fun m a => if f a < f m then a else m) l[0]) then l[i] else (l.take i).foldl (fun m a => if f a < f m then a else m) l[0]) := fun i hi => take_fold hi
  refine for_w (fun i e m x => e 0 = sV cA l ∧ e 1 = .fn (.func g) [] caps ∧ e 4 = .p 0 0 ∧ e 5 = .p 7 0 ∧ m 0 = some (.cells [.i .i64 0, .i .i64 0] false) ∧ e 6 = .i .i64 (i + 1 : Nat) ∧ ∃ b, m 7 = some (.cells (cA b) false) ∧ b ∈ l ∧ (l.take (i + 1)).foldl (fun m a => if f a < f m then a else m) l[0] = b) (l.length - 1) ?_ ?_ ?_
  · have e1 : l.take 1 = [l[0]] := by
      cases l with
      | nil => exact absurd rfl hne
      | cons a r => rfl
    simp +contextual (disch := omega) [Nat.add_assoc, Int.add_assoc, if_pos, if_neg, -Int.not_lt, -Int.not_le, -Nat.not_lt, -Nat.not_le, -List.length_flatMap, e1]
  · rintro i e m x hi ⟨g1, g2, g3, g4, g5, g6, b, g7, g8, g9⟩
    have hi' : i + 1 < l.length := by omega
    have hk := h l[i + 1] (List.getElem_mem hi') b g8
    have e2 : (l.take (i + 2)).foldl (fun m a => if f a < f m then a else m) l[0] = _ := fo (i + 1) hi'
    rw [g9] at e2
    have hi3 : i + 1 < 1000000 := by omega
    by_cases hlt : f l[i + 1] < f b
    · rw [if_pos hlt] at e2
      simp +contextual (disch := omega) [Nat.add_assoc, Int.add_assoc, if_pos, if_neg, -Int.not_lt, -Int.not_le, -Nat.not_lt, -Nat.not_le, -List.length_flatMap, slices_MinFunc_Atom.b1, g1, g2, g3, g4, g5, g6, g7, hi', CallX_cl (C := ctx) (g := g) hpr (orF hg).1 (orF hg).2, hc, ansK hk]
      rw [e2]; exact ⟨rfl, List.getElem_mem hi'⟩
    · rw [if_neg hlt] at e2
      simp +contextual (disch := omega) [Nat.add_assoc, Int.add_assoc, if_pos, if_neg, -Int.not_lt, -Int.not_le, -Nat.not_lt, -Nat.not_le, -List.length_flatMap, slices_MinFunc_Atom.b1, g1, g2, g3, g4, g5, g6, g7, hi', CallX_cl (C := ctx) (g := g) hpr (orF hg).1 (orF hg).2, hc, ansK hk]
      rw [e2]; exact ⟨rfl, g8⟩
  · rintro e m x ⟨g1, g2, g3, g4, g5, g6, b, g7, g8, g9⟩
    have e3 : l.length - 1 + 1 = l.length := by omega
    rw [e3, List.take_length] at g9
    have e4 : minA f l = b := by unfold minA; rw [e0]; exact g9
    rw [e3] at g6
    simp +contextual (disch := omega) [Nat.add_assoc, Int.add_assoc, if_pos, if_neg, -Int.not_lt, -Int.not_le, -Nat.not_lt, -Nat.not_le, -List.length_flatMap, slices_MinFunc_Atom.b1, g1, g2, g3, g4, g5, g6, g7, e4]
/-- Right clauses, of values from 0 to 2^40. -/
theorem atS_bd {vars : Int} {model : List Int} (hm : Nats model) {a : A} (h : 0 ≤ a.var ∧ a.var < vars ∧ 0 ≤ a.off ∧ a.off ≤ 1000) : -1000 ≤ atS model a ∧ atS model a ≤ 1099511627776 := by
  have := hm.getD a.var.toNat
  unfold atS
  omega
theorem horn_Asks_1.a {model : List Int} (hm : Nats model) {a b : A} (ha : 0 ≤ a.var ∧ a.var < model.length ∧ 0 ≤ a.off ∧ a.off ≤ 1000) (hb : 0 ≤ b.var ∧ b.var < model.length ∧ 0 ≤ b.off ∧ b.off ≤ 1000) :
    Ans ctx horn_Asks_1.n [.ag (cA a), .ag (cA b), .rp [sV cI model]] (.i .i64 (atS model a - atS model b)) := by
  refine ans horn_Asks_1.f ?_
  have e1 := getD_get model 0 (by omega : a.var.toNat < model.length)
  have e2 := getD_get model 0 (by omega : b.var.toNat < model.length)
  have h1 := hm.getD a.var.toNat
  have h2 := hm.getD b.var.toNat
  unfold atS
  rw [e1] at h1 ⊢
  rw [e2] at h2 ⊢
  simp +contextual (disch := omega) [Nat.add_assoc, Int.add_assoc, if_pos, if_neg, -Int.not_lt, -Int.not_le, -Nat.not_lt, -Nat.not_le, -List.length_flatMap, horn_Asks_1.c]
theorem minS_ok {model : List Int} (l : List A) (hne : l ≠ []) : minS model l = atS model (minA (atS model) l) := by rw [minA_f (atS model) l]; rfl
theorem horn_Asks.a {model : List Int} (hm : Nats model) {c : C} (hc : okC model.length c = true) (hl : model.length ≤ 1000) : Ans ctx horn_Asks.n [.ag (cC c), sV cI model] (.i .i64 (asksS model c)) := by
  refine ans horn_Asks.f ?_
  have hne := okC_ne hc
  have hlen : c.frm.length ≤ 6 := by
    have h := hc
    simp [okC, manyC] at h
    omega
  have hmn := slices_MinFunc_Atom.a c.frm horn_Asks_1.n [.rp [sV cI model]] (atS model) rfl rfl (by simp) (fun a ha b hb => horn_Asks_1.a hm (okC_frm hc ha) (okC_frm hc hb)) hne (by omega)
  have hb := okC_frm hc (minA_mem (atS model) c.frm hne)
  have hto := okC_to hc
  have hbd := atS_bd hm hb
  have e0 : asksS model c = atS model (minA (atS model) c.frm) + c.to.off := by unfold asksS; rw [minS_ok _ hne]
  rw [e0]
  generalize minA (atS model) c.frm = b at *
  have e1 := getD_get model 0 (by omega : b.var.toNat < model.length)
  have h1 := hm.getD b.var.toNat
  unfold atS at hbd ⊢
  rw [e1] at h1 hbd ⊢
  simp +contextual (disch := omega) [Nat.add_assoc, Int.add_assoc, if_pos, if_neg, -Int.not_lt, -Int.not_le, -Nat.not_lt, -Nat.not_le, -List.length_flatMap, horn_Asks.c, ansK hmn]
end Pi


set_option linter.unusedSimpArgs false
set_option linter.unusedVariables false
namespace Pi
theorem ref08_Ints.a (a b : List Int) (ha : a.length ≤ 1000000) : Ans ctx ref08_Ints.n [sV cI a, sV cI b] (.b (decide (a = b))) := by
  refine ans ref08_Ints.f ?_
  by_cases hl : a.length = b.length
  · simp +contextual (disch := omega) [Nat.add_assoc, Int.add_assoc, if_pos, if_neg, -Int.not_lt, -Int.not_le, -Nat.not_lt, -Nat.not_le, -List.length_flatMap, ref08_Ints.c]
    refine for_w (fun i e m x => e 0 = sV cI a ∧ e 1 = sV cI b ∧ e 5 = .i .i64 i ∧ a.take i = b.take i) a.length ?_ ?_ ?_
    · simp +contextual (disch := omega) [Nat.add_assoc, Int.add_assoc, if_pos, if_neg, -Int.not_lt, -Int.not_le, -Nat.not_lt, -Nat.not_le, -List.length_flatMap]
    · rintro i e m x hi ⟨g1, g2, g3, g4⟩
      have hi' : i < b.length := by omega
      by_cases he : a[i] = b[i]
      · have : a.take (i + 1) = b.take (i + 1) := by rw [List.take_succ_eq_append_getElem hi, List.take_succ_eq_append_getElem hi', g4, he]
        simp +contextual (disch := omega) [Nat.add_assoc, Int.add_assoc, if_pos, if_neg, -Int.not_lt, -Int.not_le, -Nat.not_lt, -Nat.not_le, -List.length_flatMap, ref08_Ints.b1, g1, g2, g3, hi, hi', he, this]
      · have : a ≠ b := fun h => he (by subst h; rfl)
        simp +contextual (disch := omega) [Nat.add_assoc, Int.add_assoc, if_pos, if_neg, -Int.not_lt, -Int.not_le, -Nat.not_lt, -Nat.not_le, -List.length_flatMap, ref08_Ints.b1, g1, g2, g3, hi, hi', he, this]
    · rintro e m x ⟨g1, g2, g3, g4⟩
      rw [List.take_length, hl, List.take_length] at g4
      simp +contextual (disch := omega) [Nat.add_assoc, Int.add_assoc, if_pos, if_neg, -Int.not_lt, -Int.not_le, -Nat.not_lt, -Nat.not_le, -List.length_flatMap, ref08_Ints.b1, g1, g2, g3, g4]
  · have : a ≠ b := fun h => hl (by rw [h])
    simp +contextual (disch := omega) [Nat.add_assoc, Int.add_assoc, if_pos, if_neg, -Int.not_lt, -Int.not_le, -Nat.not_lt, -Nat.not_le, -List.length_flatMap, ref08_Ints.c, this]
theorem right_ok {vars : Int} {l : List C} (h : rightC vars l = true) : 1 ≤ vars ∧ vars ≤ 16 ∧ l.length ≤ 60 ∧ ∀ c ∈ l, okC vars c = true := by
  simp [rightC] at h
  exact ⟨by omega, by omega, by omega, h.2⟩
end Pi

