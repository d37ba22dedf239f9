/- Contracts: flats (layer 6): what a level is in a case. -/
import Derived.Test.YtglabbjideniaaaGreatC02a
import Derived.Test.YtglabbjideniaaaGreatEnc
import Derived.Test.YtglabbjideniaaaGreatCode
set_option linter.unusedSimpArgs false
set_option linter.unusedVariables false
namespace Pi
def plainF (p : Nat) : F := ⟨0, List.replicate p (-1)⟩
def ofK (k n : Int) (zero : List Bool) (fs : List F) : F :=
  if k = 5 then (if zero.getD n.toNat true = true then plainF zero.length else ⟨0, (List.replicate zero.length (-1)).set n.toNat 0⟩)
  else if k = 2 then succF (fs.getD 0 default)
  else if k = 3 then joinF (fs.getD 0 default) (fs.getD 1 default)
  else if k = 4 then (if (fs.getD 1 default).cst = 0 ∧ topF (fs.getD 1 default) = -1 then fs.getD 1 default else joinF (fs.getD 0 default) (fs.getD 1 default))
  else plainF zero.length
mutual
def ofS (l : L) (zero : List Bool) : F := match l with
  | .mk k n ks => ofK k n zero (ofL ks zero)
def ofL (ks : List L) (zero : List Bool) : List F := match ks with
  | [] => []
  | k :: r => ofS k zero :: ofL r zero
end
theorem ofL_eq (ks : List L) (zero : List Bool) : ofL ks zero = ks.map fun k => ofS k zero := by
  induction ks with
  | nil => rfl
  | cons k r ih => simp [ofL, ih]
theorem ofS_eq (l : L) (zero : List Bool) : ofS l zero = ofK l.kind l.n zero (l.kids.map fun k => ofS k zero) := by
  cases l with
  | mk k n ks => simp only [ofS, ofL_eq]; rfl
/-- Flats of some length, whose numbers are no more than some. -/
def Bd (p : Nat) (d : Int) (f : F) : Prop := f.offs.length = p ∧ (0 ≤ f.cst ∧ f.cst ≤ d) ∧ ∀ a ∈ f.offs, -1 ≤ a ∧ a ≤ d
theorem Bd.up {p : Nat} {d d' : Int} {f : F} (h : Bd p d f) (hd : d ≤ d') : Bd p d' f := ⟨h.1, ⟨h.2.1.1, by have := h.2.1.2; omega⟩, fun a ha => by have := h.2.2 a ha; omega⟩
theorem plain_bd (p : Nat) : Bd p 0 (plainF p) := ⟨by simp [plainF], by simp [plainF], fun a ha => by simp [plainF] at ha; omega⟩
theorem succ_bd {p : Nat} {d : Int} {f : F} (h : Bd p d f) : Bd p (d + 1) (succF f) := by
  refine ⟨by simp [succF, h.1], by have := h.2.1; simp [succF]; omega, fun a ha => ?_⟩
  obtain ⟨b, hb, rfl⟩ := List.mem_map.1 ha
  have := h.2.2 b hb
  unfold upO
  split <;> omega
theorem zipM_mem : ∀ {a b : List Int} {c : Int}, c ∈ zipM a b → ∃ x ∈ a, ∃ y ∈ b, c = max x y
  | x :: a, y :: b, c, h => by
    simp only [zipM, List.mem_cons] at h
    rcases h with rfl | h
    · exact ⟨x, by simp, y, by simp, rfl⟩
    · obtain ⟨u, hu, v, hv, e⟩ := zipM_mem h
      exact ⟨u, by simp [hu], v, by simp [hv], e⟩
  | [], _, _, h => by simp [zipM] at h
  | _ :: _, [], _, h => by simp [zipM] at h
theorem join_bd {p : Nat} {d : Int} {f g : F} (h : Bd p d f) (k : Bd p d g) : Bd p d (joinF f g) := by
  refine ⟨by simp only [joinF]; rw [zipM_len (by rw [h.1, k.1]), h.1], ?_, fun a ha => ?_⟩
  · have := h.2.1; have := k.2.1
    simp only [joinF]; omega
  · obtain ⟨x, hx, y, hy, rfl⟩ := zipM_mem ha
    have := h.2.2 x hx; have := k.2.2 y hy
    omega
theorem ofS_bd (l : L) : ∀ (zero : List Bool) (d : Int), rightS l zero.length 0 d = true → Bd zero.length (d - 1) (ofS l zero) := by
  induction l using L.ind with
  | h l ih =>
  intro zero d hr
  obtain ⟨h1, h2, h3, h4⟩ := right_kid hr
  have hv : ∀ i : Nat, i < l.kids.length → Bd zero.length (d - 2) ((l.kids.map fun k => ofS k zero).getD i default) := by
    intro i hi
    have e1 : (l.kids.map fun k => ofS k zero).getD i default = ofS l.kids[i] zero := by simp [hi]
    rw [e1]
    exact (ih _ (List.getElem_mem hi) zero (d - 1) (h4 _ (List.getElem_mem hi))).up (by omega)
  rw [ofS_eq]
  unfold ofK kidsS at *
  split
  · rename_i hk
    split
    · exact (plain_bd _).up (by omega)
    · refine ⟨by simp, by simp; omega, fun a ha => ?_⟩
      rcases List.mem_or_eq_of_mem_set ha with ha | ha
      · have := List.mem_replicate.1 ha; omega
      · omega
  · split
    · rename_i hk
      simp only [hk] at h2
      exact (succ_bd (hv 0 (by simp at h2; omega))).up (by omega)
    · split
      · rename_i hk
        simp only [hk] at h2
        exact (join_bd (hv 0 (by simp at h2; omega)) (hv 1 (by simp at h2; omega))).up (by omega)
      · split
        · rename_i hk
          simp only [hk] at h2
          split
          · exact (hv 1 (by simp at h2; omega)).up (by omega)
          · exact (join_bd (hv 0 (by simp at h2; omega)) (hv 1 (by simp at h2; omega))).up (by omega)
        · exact (plain_bd _).up (by omega)
theorem kids1 {l : L} (h : (l.kids.length : Int) = 1) : ∃ a, l.kids = [a] := by
  match hk : l.kids with
  | [] => rw [hk] at h; simp at h
  | [a] => exact ⟨a, rfl⟩
  | a :: b :: r => rw [hk] at h; simp at h; omega
theorem kids2 {l : L} (h : (l.kids.length : Int) = 2) : ∃ a b, l.kids = [a, b] := by
  match hk : l.kids with
  | [] => rw [hk] at h; simp at h
  | [a] => rw [hk] at h; simp at h
  | [a, b] => exact ⟨a, b, rfl⟩
  | a :: b :: c :: r => rw [hk] at h; simp at h; omega
theorem cL_over (y : Nat) (l : L) : overL y (cL l) = true := by rw [cL_at]; simp [overL, V.over, sV]
set_option maxHeartbeats 2000000 in
theorem flat_of.w (l : L) : l.Ok → ∀ (zero : List Bool) (d : Int), zero.length ≤ 5 → d ≤ 100 → rightS l zero.length 0 d = true → ∀ {m : Sto} {x : Nat} {K : CR → Sto → Nat → Prop}
    (hK : ∀ B m' x', x ≤ x' → (∀ j, j < x → m' j = m j) → Ex m' B (ofS l zero).offs x x' → (∀ y, y ≤ x → Own m y → Own m' y) → K (.ret (.ag [.i .i64 (ofS l zero).cst, B])) m' x'),
    w ctx (envOf [.ag (cL l), sV cB zero]) m x [] none none (RetG ctx flat_of.c.rs K) flat_of.c.code := by
  induction l using L.ind with
  | h l ih =>
  intro ok zero d hz hd hr m x K hK
  obtain ⟨h1, h2, h3, h4⟩ := right_kid hr
  have hbd := ofS_bd l zero d hr
  have hkb := fun k hk => ofS_bd k zero (d - 1) (h4 k hk)
  have hfp : ctx.frz flat_plain.n = false := rfl
  have hfo : ctx.frz flat_of.n = false := rfl
  have hfs : ctx.frz flat_succ.n = false := rfl
  have hfj : ctx.frz flat_join.n = false := rfl
  rw [ofS_eq] at hK hbd
  simp +contextual (disch := omega) [Nat.add_assoc, Int.add_assoc, if_pos, if_neg, -Int.not_lt, -Int.not_le, -Nat.not_lt, -Nat.not_le, -List.length_flatMap, flat_of.c]
  rw [CallX_op (by rfl)]
  refine openg_w rfl rfl (.inl rfl) ?_
  rw [hfp]
  refine flat_plain.w 0 zero.length hz ?_
  intro B0 m1 x1 hx1 hm1 hB0 ho1
  have y0 : m1 x = some (.cells (cL l) false) := by rw [hm1 x (by omega)]; simp +contextual (disch := omega) [Nat.add_assoc, Int.add_assoc, if_pos, if_neg, -Int.not_lt, -Int.not_le, -Nat.not_lt, -Nat.not_le, -List.length_flatMap]
  have y1 : m1 (x + 1) = some (.cells [.i .i64 0, .ns] false) := by rw [hm1 (x + 1) (by omega)]; simp +contextual (disch := omega) [Nat.add_assoc, Int.add_assoc, if_pos, if_neg, -Int.not_lt, -Int.not_le, -Nat.not_lt, -Nat.not_le, -List.length_flatMap]
  have hb0 := hB0.stor
  have hO1 : ∀ y, y ≤ x → Own m y → Own m1 y := fun y hy h => ho1 y (by omega) ((h.set (l := x) (by simp only [ownO]; exact cL_over y l)).set (l := x + 1) (by simp [ownO, overL, V.over]))
  have hmx : ∀ j, j < x → m1 j = m j := fun j hj => by rw [hm1 j (by omega)]; simp +contextual (disch := omega) [Nat.add_assoc, Int.add_assoc, if_pos, if_neg, -Int.not_lt, -Int.not_le, -Nat.not_lt, -Nat.not_le, -List.length_flatMap]
  have hM1 : ∀ y, y ≤ x → Own m y → Own ((m1.set x1 (some (.cells [.i .i64 0, .ns] false))).set x1 (some (.cells [.i .i64 0, B0] false))) y := fun y hy h => by
    have o1 := hB0.over (y := y) (by omega)
    exact ((hO1 y hy h).set (by simp [ownO, overL, V.over])).set (by simp [ownO, overL, V.over, o1])
  have z0 : ((m1.set x1 (some (.cells [.i .i64 0, .ns] false))).set x1 (some (.cells [.i .i64 0, B0] false))) x = some (.cells (cL l) false) := by simp +contextual (disch := omega) [Nat.add_assoc, Int.add_assoc, if_pos, if_neg, -Int.not_lt, -Int.not_le, -Nat.not_lt, -Nat.not_le, -List.length_flatMap, y0]
  have z1 : ((m1.set x1 (some (.cells [.i .i64 0, .ns] false))).set x1 (some (.cells [.i .i64 0, B0] false))) (x + 1) = some (.cells [.i .i64 0, .ns] false) := by simp +contextual (disch := omega) [Nat.add_assoc, Int.add_assoc, if_pos, if_neg, -Int.not_lt, -Int.not_le, -Nat.not_lt, -Nat.not_le, -List.length_flatMap, y1]
  have zx : ∀ j, j < x → ((m1.set x1 (some (.cells [.i .i64 0, .ns] false))).set x1 (some (.cells [.i .i64 0, B0] false))) j = m j := fun j hj => by simp +contextual (disch := omega) [Nat.add_assoc, Int.add_assoc, if_pos, if_neg, -Int.not_lt, -Int.not_le, -Nat.not_lt, -Nat.not_le, -List.length_flatMap, hmx]
  rcases right_kind hr with hk | hk | hk | hk | hk | hk
  · have e1 : ofK l.kind l.n zero (l.kids.map fun k => ofS k zero) = plainF zero.length := by simp [ofK, hk]
    rw [e1] at hK
    simp +contextual (disch := omega) [Nat.add_assoc, Int.add_assoc, if_pos, if_neg, -Int.not_lt, -Int.not_le, -Nat.not_lt, -Nat.not_le, -List.length_flatMap, hb0.1, hb0.2.1, y0, y1, hk]
    refine hK B0 _ _ (by omega) (fun j hj => by rw [Sto.sne _ _ _ _ (by omega), zx j hj]) (hB0.up (by omega) (by omega) (fun j h1 h2 => by simp +contextual (disch := omega) [Nat.add_assoc, Int.add_assoc, if_pos, if_neg, -Int.not_lt, -Int.not_le, -Nat.not_lt, -Nat.not_le, -List.length_flatMap])) (fun y hy h => ?_)
    have o1 := hB0.over (y := y) (by omega)
    exact (hM1 y hy h).set (by simp [ownO, overL, V.over, o1])
  · rw [hk] at h2
    obtain ⟨k0, hks⟩ := kids1 (l := l) (by rw [h2]; simp [kidsS])
    have m0 : k0 ∈ l.kids := by rw [hks]; simp
    have e1 : ofK l.kind l.n zero (l.kids.map fun k => ofS k zero) = succF (ofS k0 zero) := by rw [hks]; simp [ofK, hk]
    rw [e1] at hK
    simp +contextual (disch := omega) [Nat.add_assoc, Int.add_assoc, if_pos, if_neg, -Int.not_lt, -Int.not_le, -Nat.not_lt, -Nat.not_le, -List.length_flatMap, hb0.1, hb0.2.1, y0, y1, hk, hks]
    generalize (m1.set x1 (some (.cells [.i .i64 0, .ns] false))).set x1 (some (.cells [.i .i64 0, B0] false)) = M1 at *
    rw [CallX_op (by rfl)]
    refine openg_w rfl rfl (.inl rfl) ?_
    rw [hfo]
    refine ih k0 m0 (ok.kid m0) zero (d - 1) hz (by omega) (h4 k0 m0) ?_
    intro B1 m2 x2 hx2 hm2 hB1 ho2
    simp +contextual (disch := omega) [Nat.add_assoc, Int.add_assoc, if_pos, if_neg, -Int.not_lt, -Int.not_le, -Nat.not_lt, -Nat.not_le, -List.length_flatMap]
    rw [CallX_op (by rfl)]
    refine openg_w rfl rfl (.inl rfl) ?_
    rw [hfs]
    have b0 := hkb k0 m0
    refine flat_succ.w (ofS k0 zero) B1 hB1 hx2 ⟨b0.2.1.1, by have := b0.2.1.2; omega⟩ (fun a ha => by have := b0.2.2 a ha; omega) (by rw [b0.1]; omega) ?_
    intro m3 x3 hx3 hm3 hB3 ho3
    have w1 : m3 (x + 1) = some (.cells [.i .i64 0, .ns] false) := by rw [hm3 _ (by omega), hm2 _ (by omega), z1]
    have hb3 := hB3.stor
    simp +contextual (disch := omega) [Nat.add_assoc, Int.add_assoc, if_pos, if_neg, -Int.not_lt, -Int.not_le, -Nat.not_lt, -Nat.not_le, -List.length_flatMap, w1, hb3.1, hb3.2.1]
    refine hK B1 _ _ (by omega) (fun j hj => by rw [Sto.sne _ _ _ _ (by omega), hm3 _ (by omega), hm2 _ (by omega), zx j hj]) (hB3.up (by omega) (by omega) (fun j h1 h2 => by simp +contextual (disch := omega) [Nat.add_assoc, Int.add_assoc, if_pos, if_neg, -Int.not_lt, -Int.not_le, -Nat.not_lt, -Nat.not_le, -List.length_flatMap])) (fun y hy h => ?_)
    have o1 := hB3.over (y := y) (by omega)
    exact (ho3 y (by omega) (ho2 y (by omega) (hM1 y hy h))).set (by simp [ownO, overL, V.over, o1])
  · rw [hk] at h2
    obtain ⟨k0, k1, hks⟩ := kids2 (l := l) (by rw [h2]; simp [kidsS])
    have m0 : k0 ∈ l.kids := by rw [hks]; simp
    have m1' : k1 ∈ l.kids := by rw [hks]; simp
    have e1 : ofK l.kind l.n zero (l.kids.map fun k => ofS k zero) = joinF (ofS k0 zero) (ofS k1 zero) := by rw [hks]; simp [ofK, hk]
    rw [e1] at hK
    simp +contextual (disch := omega) [Nat.add_assoc, Int.add_assoc, if_pos, if_neg, -Int.not_lt, -Int.not_le, -Nat.not_lt, -Nat.not_le, -List.length_flatMap, hb0.1, hb0.2.1, y0, y1, hk, hks]
    generalize (m1.set x1 (some (.cells [.i .i64 0, .ns] false))).set x1 (some (.cells [.i .i64 0, B0] false)) = M1 at *
    have b0 := hkb k0 m0
    have b1 := hkb k1 m1'
    rw [CallQ_op (by rfl)]
    refine openq_w rfl rfl rfl rfl (a := [.ag (cL k0), sV cB zero]) (by simp [freezeL]) ?_
    refine ih k0 m0 (ok.kid m0) zero (d - 1) hz (by omega) (h4 k0 m0) ?_
    intro B1 m2 x2 hx2 hm2 hB1 ho2
    have hO := ho2 _ (Nat.le_refl _) Own.nil
    refine ⟨by simp [V.over, overL, hB1.over (Nat.le_refl _)], fun j h1 _ => hO j h1, fun ws ids w1 w2 w3 => ?_⟩
    obtain ⟨M2, hM2⟩ : ∃ M2, M2 = M1.app ws := ⟨_, rfl⟩
    have v0 : M2 x = some (.cells (cL l) false) := by rw [hM2, w3, if_neg (by omega), z0]
    have v1 : M2 (x + 1) = some (.cells [.i .i64 0, .ns] false) := by rw [hM2, w3, if_neg (by omega), z1]
    have vx : ∀ j, j < x → M2 j = m j := fun j hj => by rw [hM2, w3, if_neg (by omega), zx j hj]
    have vb := fun j (h1 : x1 + 17 ≤ j) (h2 : j < x2) => (show M2 j = m2 j by rw [hM2, w3, if_pos ⟨h1, h2⟩])
    have vO : ∀ y, y ≤ x → Own m y → Own M2 y := fun y hy h j hj => by
      rw [hM2, w3]
      split
      · exact ho2 y (by omega) Own.nil j hj
      · exact hM1 y hy h j hj
    simp +contextual (disch := omega) [Nat.add_assoc, Int.add_assoc, if_pos, if_neg, -Int.not_lt, -Int.not_le, -Nat.not_lt, -Nat.not_le, -List.length_flatMap, hM2.symm, w2, v0, hks]
    rw [IfK_pos (show ∀ j, j ∈ ids → ¬ j = x from fun j hj => by have := w1 j hj; omega)]
    rw [CallX_op (by rfl)]
    refine openg_w rfl rfl (.inl rfl) ?_
    rw [hfo]
    refine ih k1 m1' (ok.kid m1') zero (d - 1) hz (by omega) (h4 k1 m1') ?_
    intro B2 m3 x3 hx3 hm3 hB2 ho3
    simp +contextual (disch := omega) [Nat.add_assoc, Int.add_assoc, if_pos, if_neg, -Int.not_lt, -Int.not_le, -Nat.not_lt, -Nat.not_le, -List.length_flatMap]
    rw [CallX_op (by rfl)]
    refine openg_w rfl rfl (.inl rfl) ?_
    rw [hfj]
    refine flat_join.w (lo := x1 + 17) (b := x3) (ofS k0 zero) (ofS k1 zero) B1 B2 (hB1.up (Nat.le_refl _) (by omega) (fun j h1 h2 => by rw [Sto.sne _ _ _ _ (by omega), hm3 j (by omega), vb j h1 h2])) (hB2.up (by omega) (by omega) (fun j h1 h2 => by rw [Sto.sne _ _ _ _ (by omega)])) (by omega) (by rw [b0.1, b1.1]) (by rw [b0.1]; omega) (by rw [Sto.seq]) (by omega) ?_
    intro D m4 x4 hx4 hm4 hD ho4
    have u1 : m4 (x + 1) = some (.cells [.i .i64 0, .ns] false) := by rw [hm4 _ (by omega), Sto.sne _ _ _ _ (by omega), hm3 _ (by omega), v1]
    have hbd4 := hD.stor
    simp +contextual (disch := omega) [Nat.add_assoc, Int.add_assoc, if_pos, if_neg, -Int.not_lt, -Int.not_le, -Nat.not_lt, -Nat.not_le, -List.length_flatMap, u1, hbd4.1, hbd4.2.1]
    refine hK D _ _ (by omega) (fun j hj => by rw [Sto.sne _ _ _ _ (by omega), hm4 _ (by omega), Sto.sne _ _ _ _ (by omega), hm3 _ (by omega), vx j hj]) (hD.up (by omega) (by omega) (fun j h1 h2 => by simp +contextual (disch := omega) [Nat.add_assoc, Int.add_assoc, if_pos, if_neg, -Int.not_lt, -Int.not_le, -Nat.not_lt, -Nat.not_le, -List.length_flatMap])) (fun y hy h => ?_)
    have o1 := hD.over (y := y) (by omega)
    have o2 := hB2.over (y := y) (by omega)
    exact (ho4 y (by omega) ((ho3 y (by omega) (vO y hy h)).set (by simp [ownO, overL, V.over, o2]))).set (by simp [ownO, overL, V.over, o1])
  · rw [hk] at h2
    obtain ⟨k0, k1, hks⟩ := kids2 (l := l) (by rw [h2]; simp [kidsS])
    have m0 : k0 ∈ l.kids := by rw [hks]; simp
    have m1' : k1 ∈ l.kids := by rw [hks]; simp
    have e1 : ofK l.kind l.n zero (l.kids.map fun k => ofS k zero) = if (ofS k1 zero).cst = 0 ∧ topF (ofS k1 zero) = -1 then ofS k1 zero else joinF (ofS k0 zero) (ofS k1 zero) := by rw [hks]; simp [ofK, hk]
    rw [e1] at hK
    simp +contextual (disch := omega) [Nat.add_assoc, Int.add_assoc, if_pos, if_neg, -Int.not_lt, -Int.not_le, -Nat.not_lt, -Nat.not_le, -List.length_flatMap, hb0.1, hb0.2.1, y0, y1, hk, hks]
    generalize (m1.set x1 (some (.cells [.i .i64 0, .ns] false))).set x1 (some (.cells [.i .i64 0, B0] false)) = N1 at *
    have b0 := hkb k0 m0
    have b1 := hkb k1 m1'
    rw [CallX_op (by rfl)]
    refine openg_w rfl rfl (.inl rfl) ?_
    rw [hfo]
    refine ih k1 m1' (ok.kid m1') zero (d - 1) hz (by omega) (h4 k1 m1') ?_
    intro E n2 w2x hw2 hn2 hE hoE
    have hst := hE.stor
    have t0 : n2 x = some (.cells (cL l) false) := by rw [hn2 _ (by omega), z0]
    have t1 : n2 (x + 1) = some (.cells [.i .i64 0, .ns] false) := by rw [hn2 _ (by omega), z1]
    have hT := flat_Top.a (ofS k1 zero) (by rw [b1.1]; omega)
    have hEM := hE.up (m' := (n2.set w2x (some (.cells [.i .i64 0, .ns] false))).set w2x (some (.cells [.i .i64 (ofS k1 zero).cst, E] false))) (Nat.le_refl _) (Nat.le_refl _) (fun j h1 h2 => by simp +contextual (disch := omega) [Nat.add_assoc, Int.add_assoc, if_pos, if_neg, -Int.not_lt, -Int.not_le, -Nat.not_lt, -Nat.not_le, -List.length_flatMap])
    have hzE := hEM.bf.fz24
    have hcF : V.ag [.i .i64 (ofS k1 zero).cst, sV cI (ofS k1 zero).offs] = .ag (cF (ofS k1 zero)) := rfl
    by_cases c1 : (ofS k1 zero).cst = 0
    · rw [c1] at hzE hcF
      by_cases c2 : topF (ofS k1 zero) = -1
      · rw [if_pos ⟨c1, c2⟩] at hK
        rw [c1] at hK
        simp +contextual (disch := omega) [Nat.add_assoc, Int.add_assoc, if_pos, if_neg, -Int.not_lt, -Int.not_le, -Nat.not_lt, -Nat.not_le, -List.length_flatMap, hst.1, hst.2.1, hzE, hcF, ansK hT, c1, c2, t1]
        refine hK E _ _ (by omega) (fun j hj => by rw [Sto.sne _ _ _ _ (by omega), Sto.sne _ _ _ _ (by omega), Sto.sne _ _ _ _ (by omega), hn2 j (by omega), zx j hj]) (hE.up (by omega) (by omega) (fun j h1 h2 => by simp +contextual (disch := omega) [Nat.add_assoc, Int.add_assoc, if_pos, if_neg, -Int.not_lt, -Int.not_le, -Nat.not_lt, -Nat.not_le, -List.length_flatMap])) (fun y hy h => ?_)
        have o1 := hE.over (y := y) (by omega)
        exact (((hoE y (by omega) (hM1 y hy h)).set (by simp [ownO, overL, V.over])).set (by simp [ownO, overL, V.over, o1])).set (by simp [ownO, overL, V.over, o1])
      · rw [if_neg (by simp [c2])] at hK
        simp +contextual (disch := omega) [Nat.add_assoc, Int.add_assoc, if_pos, if_neg, -Int.not_lt, -Int.not_le, -Nat.not_lt, -Nat.not_le, -List.length_flatMap, hst.1, hst.2.1, hzE, hcF, ansK hT, c1, c2, t0, hks]
        have r0 : ((n2.set w2x (some (.cells [.i .i64 0, .ns] false))).set w2x (some (.cells [.i .i64 0, E] false))) x = some (.cells (cL l) false) := by simp +contextual (disch := omega) [Nat.add_assoc, Int.add_assoc, if_pos, if_neg, -Int.not_lt, -Int.not_le, -Nat.not_lt, -Nat.not_le, -List.length_flatMap, t0]
        have r1 : ((n2.set w2x (some (.cells [.i .i64 0, .ns] false))).set w2x (some (.cells [.i .i64 0, E] false))) (x + 1) = some (.cells [.i .i64 0, .ns] false) := by simp +contextual (disch := omega) [Nat.add_assoc, Int.add_assoc, if_pos, if_neg, -Int.not_lt, -Int.not_le, -Nat.not_lt, -Nat.not_le, -List.length_flatMap, t1]
        have rx : ∀ j, j < x → ((n2.set w2x (some (.cells [.i .i64 0, .ns] false))).set w2x (some (.cells [.i .i64 0, E] false))) j = m j := fun j hj => by rw [Sto.sne _ _ _ _ (by omega), Sto.sne _ _ _ _ (by omega), hn2 j (by omega), zx j hj]
        have rO : ∀ y, y ≤ x → Own m y → Own ((n2.set w2x (some (.cells [.i .i64 0, .ns] false))).set w2x (some (.cells [.i .i64 0, E] false))) y := fun y hy h => by
          have o1 := hE.over (y := y) (by omega)
          exact ((hoE y (by omega) (hM1 y hy h)).set (by simp [ownO, overL, V.over])).set (by simp [ownO, overL, V.over, o1])
        clear hzE hEM z0 z1 zx hM1
        generalize (n2.set w2x (some (.cells [.i .i64 0, .ns] false))).set w2x (some (.cells [.i .i64 0, E] false)) = M1 at *
        rw [CallQ_op (by rfl)]
        refine openq_w rfl rfl rfl rfl (a := [.ag (cL k0), sV cB zero]) (by simp [freezeL]) ?_
        refine ih k0 m0 (ok.kid m0) zero (d - 1) hz (by omega) (h4 k0 m0) ?_
        intro B1 m2 x2 hx2 hm2 hB1 ho2
        have hO := ho2 _ (Nat.le_refl _) Own.nil
        refine ⟨by simp [V.over, overL, hB1.over (Nat.le_refl _)], fun j h1 _ => hO j h1, fun ws ids w1 w2 w3 => ?_⟩
        obtain ⟨M2, hM2⟩ : ∃ M2, M2 = M1.app ws := ⟨_, rfl⟩
        have v0 : M2 x = some (.cells (cL l) false) := by rw [hM2, w3, if_neg (by omega), r0]
        have v1 : M2 (x + 1) = some (.cells [.i .i64 0, .ns] false) := by rw [hM2, w3, if_neg (by omega), r1]
        have vx : ∀ j, j < x → M2 j = m j := fun j hj => by rw [hM2, w3, if_neg (by omega), rx j hj]
        have vb := fun j (h1 : w2x + 14 ≤ j) (h2 : j < x2) => (show M2 j = m2 j by rw [hM2, w3, if_pos ⟨h1, h2⟩])
        have vO : ∀ y, y ≤ x → Own m y → Own M2 y := fun y hy h j hj => by
          rw [hM2, w3]
          split
          · exact ho2 y (by omega) Own.nil j hj
          · exact rO y hy h j hj
        simp +contextual (disch := omega) [Nat.add_assoc, Int.add_assoc, if_pos, if_neg, -Int.not_lt, -Int.not_le, -Nat.not_lt, -Nat.not_le, -List.length_flatMap, hM2.symm, w2, v0, hks]
        rw [IfK_pos (show ∀ j, j ∈ ids → ¬ j = x from fun j hj => by have := w1 j hj; omega)]
        rw [CallX_op (by rfl)]
        refine openg_w rfl rfl (.inl rfl) ?_
        rw [hfo]
        refine ih k1 m1' (ok.kid m1') zero (d - 1) hz (by omega) (h4 k1 m1') ?_
        intro B2 m3 x3 hx3 hm3 hB2 ho3
        simp +contextual (disch := omega) [Nat.add_assoc, Int.add_assoc, if_pos, if_neg, -Int.not_lt, -Int.not_le, -Nat.not_lt, -Nat.not_le, -List.length_flatMap]
        rw [CallX_op (by rfl)]
        refine openg_w rfl rfl (.inl rfl) ?_
        rw [hfj]
        refine flat_join.w (lo := w2x + 14) (b := x3) (ofS k0 zero) (ofS k1 zero) B1 B2 (hB1.up (Nat.le_refl _) (by omega) (fun j h1 h2 => by rw [Sto.sne _ _ _ _ (by omega), hm3 j (by omega), vb j h1 h2])) (hB2.up (by omega) (by omega) (fun j h1 h2 => by rw [Sto.sne _ _ _ _ (by omega)])) (by omega) (by rw [b0.1, b1.1]) (by rw [b0.1]; omega) (by rw [Sto.seq]) (by omega) ?_
        intro D m4 x4 hx4 hm4 hD ho4
        have u1 : m4 (x + 1) = some (.cells [.i .i64 0, .ns] false) := by rw [hm4 _ (by omega), Sto.sne _ _ _ _ (by omega), hm3 _ (by omega), v1]
        have hbd4 := hD.stor
        simp +contextual (disch := omega) [Nat.add_assoc, Int.add_assoc, if_pos, if_neg, -Int.not_lt, -Int.not_le, -Nat.not_lt, -Nat.not_le, -List.length_flatMap, u1, hbd4.1, hbd4.2.1]
        refine hK D _ _ (by omega) (fun j hj => by rw [Sto.sne _ _ _ _ (by omega), hm4 _ (by omega), Sto.sne _ _ _ _ (by omega), hm3 _ (by omega), vx j hj]) (hD.up (by omega) (by omega) (fun j h1 h2 => by simp +contextual (disch := omega) [Nat.add_assoc, Int.add_assoc, if_pos, if_neg, -Int.not_lt, -Int.not_le, -Nat.not_lt, -Nat.not_le, -List.length_flatMap])) (fun y hy h => ?_)
        have o1 := hD.over (y := y) (by omega)
        have o2 := hB2.over (y := y) (by omega)
        exact (ho4 y (by omega) ((ho3 y (by omega) (vO y hy h)).set (by simp [ownO, overL, V.over, o2]))).set (by simp [ownO, overL, V.over, o1])
    · rw [if_neg (by simp [c1])] at hK
      simp +contextual (disch := omega) [Nat.add_assoc, Int.add_assoc, if_pos, if_neg, -Int.not_lt, -Int.not_le, -Nat.not_lt, -Nat.not_le, -List.length_flatMap, hst.1, hst.2.1, c1, t0, hks]
      have r0 : ((n2.set w2x (some (.cells [.i .i64 0, .ns] false))).set w2x (some (.cells [.i .i64 (ofS k1 zero).cst, E] false))) x = some (.cells (cL l) false) := by simp +contextual (disch := omega) [Nat.add_assoc, Int.add_assoc, if_pos, if_neg, -Int.not_lt, -Int.not_le, -Nat.not_lt, -Nat.not_le, -List.length_flatMap, t0]
      have r1 : ((n2.set w2x (some (.cells [.i .i64 0, .ns] false))).set w2x (some (.cells [.i .i64 (ofS k1 zero).cst, E] false))) (x + 1) = some (.cells [.i .i64 0, .ns] false) := by simp +contextual (disch := omega) [Nat.add_assoc, Int.add_assoc, if_pos, if_neg, -Int.not_lt, -Int.not_le, -Nat.not_lt, -Nat.not_le, -List.length_flatMap, t1]
      have rx : ∀ j, j < x → ((n2.set w2x (some (.cells [.i .i64 0, .ns] false))).set w2x (some (.cells [.i .i64 (ofS k1 zero).cst, E] false))) j = m j := fun j hj => by rw [Sto.sne _ _ _ _ (by omega), Sto.sne _ _ _ _ (by omega), hn2 j (by omega), zx j hj]
      have rO : ∀ y, y ≤ x → Own m y → Own ((n2.set w2x (some (.cells [.i .i64 0, .ns] false))).set w2x (some (.cells [.i .i64 (ofS k1 zero).cst, E] false))) y := fun y hy h => by
        have o1 := hE.over (y := y) (by omega)
        exact ((hoE y (by omega) (hM1 y hy h)).set (by simp [ownO, overL, V.over])).set (by simp [ownO, overL, V.over, o1])
      clear hzE hEM z0 z1 zx hM1
      generalize (n2.set w2x (some (.cells [.i .i64 0, .ns] false))).set w2x (some (.cells [.i .i64 (ofS k1 zero).cst, E] false)) = M1 at *
      rw [CallQ_op (by rfl)]
      refine openq_w rfl rfl rfl rfl (a := [.ag (cL k0), sV cB zero]) (by simp [freezeL]) ?_
      refine ih k0 m0 (ok.kid m0) zero (d - 1) hz (by omega) (h4 k0 m0) ?_
      intro B1 m2 x2 hx2 hm2 hB1 ho2
      have hO := ho2 _ (Nat.le_refl _) Own.nil
      refine ⟨by simp [V.over, overL, hB1.over (Nat.le_refl _)], fun j h1 _ => hO j h1, fun ws ids w1 w2 w3 => ?_⟩
      obtain ⟨M2, hM2⟩ : ∃ M2, M2 = M1.app ws := ⟨_, rfl⟩
      have v0 : M2 x = some (.cells (cL l) false) := by rw [hM2, w3, if_neg (by omega), r0]
      have v1 : M2 (x + 1) = some (.cells [.i .i64 0, .ns] false) := by rw [hM2, w3, if_neg (by omega), r1]
      have vx : ∀ j, j < x → M2 j = m j := fun j hj => by rw [hM2, w3, if_neg (by omega), rx j hj]
      have vb := fun j (h1 : w2x + 12 ≤ j) (h2 : j < x2) => (show M2 j = m2 j by rw [hM2, w3, if_pos ⟨h1, h2⟩])
      have vO : ∀ y, y ≤ x → Own m y → Own M2 y := fun y hy h j hj => by
        rw [hM2, w3]
        split
        · exact ho2 y (by omega) Own.nil j hj
        · exact rO y hy h j hj
      simp +contextual (disch := omega) [Nat.add_assoc, Int.add_assoc, if_pos, if_neg, -Int.not_lt, -Int.not_le, -Nat.not_lt, -Nat.not_le, -List.length_flatMap, hM2.symm, w2, v0, hks]
      rw [IfK_pos (show ∀ j, j ∈ ids → ¬ j = x from fun j hj => by have := w1 j hj; omega)]
      rw [CallX_op (by rfl)]
      refine openg_w rfl rfl (.inl rfl) ?_
      rw [hfo]
      refine ih k1 m1' (ok.kid m1') zero (d - 1) hz (by omega) (h4 k1 m1') ?_
      intro B2 m3 x3 hx3 hm3 hB2 ho3
      simp +contextual (disch := omega) [Nat.add_assoc, Int.add_assoc, if_pos, if_neg, -Int.not_lt, -Int.not_le, -Nat.not_lt, -Nat.not_le, -List.length_flatMap]
      rw [CallX_op (by rfl)]
      refine openg_w rfl rfl (.inl rfl) ?_
      rw [hfj]
      refine flat_join.w (lo := w2x + 12) (b := x3) (ofS k0 zero) (ofS k1 zero) B1 B2 (hB1.up (Nat.le_refl _) (by omega) (fun j h1 h2 => by rw [Sto.sne _ _ _ _ (by omega), hm3 j (by omega), vb j h1 h2])) (hB2.up (by omega) (by omega) (fun j h1 h2 => by rw [Sto.sne _ _ _ _ (by omega)])) (by omega) (by rw [b0.1, b1.1]) (by rw [b0.1]; omega) (by rw [Sto.seq]) (by omega) ?_
      intro D m4 x4 hx4 hm4 hD ho4
      have u1 : m4 (x + 1) = some (.cells [.i .i64 0, .ns] false) := by rw [hm4 _ (by omega), Sto.sne _ _ _ _ (by omega), hm3 _ (by omega), v1]
      have hbd4 := hD.stor
      simp +contextual (disch := omega) [Nat.add_assoc, Int.add_assoc, if_pos, if_neg, -Int.not_lt, -Int.not_le, -Nat.not_lt, -Nat.not_le, -List.length_flatMap, u1, hbd4.1, hbd4.2.1]
      refine hK D _ _ (by omega) (fun j hj => by rw [Sto.sne _ _ _ _ (by omega), hm4 _ (by omega), Sto.sne _ _ _ _ (by omega), hm3 _ (by omega), vx j hj]) (hD.up (by omega) (by omega) (fun j h1 h2 => by simp +contextual (disch := omega) [Nat.add_assoc, Int.add_assoc, if_pos, if_neg, -Int.not_lt, -Int.not_le, -Nat.not_lt, -Nat.not_le, -List.length_flatMap])) (fun y hy h => ?_)
      have o1 := hD.over (y := y) (by omega)
      have o2 := hB2.over (y := y) (by omega)
      exact (ho4 y (by omega) ((ho3 y (by omega) (vO y hy h)).set (by simp [ownO, overL, V.over, o2]))).set (by simp [ownO, overL, V.over, o1])
  · have hn : 0 ≤ l.n ∧ l.n < zero.length := by simp [namedS, hk] at h3; exact h3
    obtain ⟨q, hq⟩ : ∃ q : Nat, l.n = q := ⟨l.n.toNat, by omega⟩
    have hql : q < zero.length := by omega
    have hgd : zero.getD q true = zero[q] := by simp [hql]
    cases hzq : zero[q] with
    | true =>
      have e1 : ofK l.kind l.n zero (l.kids.map fun k => ofS k zero) = plainF zero.length := by simp [ofK, hk, hq, hgd, hzq, hql]
      rw [e1] at hK
      simp +contextual (disch := omega) [Nat.add_assoc, Int.add_assoc, if_pos, if_neg, -Int.not_lt, -Int.not_le, -Nat.not_lt, -Nat.not_le, -List.length_flatMap, hb0.1, hb0.2.1, y0, y1, hk, hq, hql, hzq]
      refine hK B0 _ _ (by omega) (fun j hj => by rw [Sto.sne _ _ _ _ (by omega), zx j hj]) (hB0.up (by omega) (by omega) (fun j h1 h2 => by simp +contextual (disch := omega) [Nat.add_assoc, Int.add_assoc, if_pos, if_neg, -Int.not_lt, -Int.not_le, -Nat.not_lt, -Nat.not_le, -List.length_flatMap])) (fun y hy h => ?_)
      have o1 := hB0.over (y := y) (by omega)
      exact (hM1 y hy h).set (by simp [ownO, overL, V.over, o1])
    | false =>
      have e1 : ofK l.kind l.n zero (l.kids.map fun k => ofS k zero) = ⟨0, (List.replicate zero.length (-1)).set q 0⟩ := by simp [ofK, hk, hq, hgd, hzq, hql]
      rw [e1] at hK
      have hlr : (List.replicate zero.length (-1 : Int)).length = zero.length := by simp
      rcases hB0 with ⟨_, h⟩ | ⟨a, rfl, g1, g2, g3⟩
      · have := congrArg List.length h; simp at this; rw [this] at hql; simp at hql
      · obtain ⟨R, hR⟩ : ∃ R, R = List.replicate zero.length (-1 : Int) := ⟨_, rfl⟩
        rw [← hR] at g1 hlr hK hb0 z0 z1 zx hM1 ⊢
        have hcl : (R.flatMap cI).length = zero.length := by rw [flatI_len, hlr]
        rw [hlr] at hb0 z0 z1 zx hM1 ⊢
        simp +contextual (disch := omega) [Nat.add_assoc, Int.add_assoc, if_pos, if_neg, -Int.not_lt, -Int.not_le, -Nat.not_lt, -Nat.not_le, -List.length_flatMap, hb0.1, hb0.2.1, y0, y1, hk, hq, hql, hzq, g1, hcl]
        rw [flatI_set (by omega)]
        refine hK (.ms a 0 zero.length 1) _ _ (by omega) (fun j hj => by rw [Sto.sne _ _ _ _ (by omega), Sto.sne _ _ _ _ (by omega), zx j hj]) (.inr ⟨a, by simp [hlr], by rw [Sto.sne _ _ _ _ (by omega), Sto.seq], by omega, by omega⟩) (fun y hy h => ?_)
        have hya : y ≤ a := by omega
        exact ((hM1 y hy h).set (l := a) (o := some (.cells ((R.set q 0).flatMap cI) false)) (over_cI y _)).set (by simp [ownO, overL, V.over, hya])
  · simp [namedS, hk] at h3; omega
end Pi


set_option linter.unusedSimpArgs false
set_option linter.unusedVariables false
namespace Pi
def flattenF (l : L) (zero : List Bool) : F := if topF (ofS l zero) ≠ -1 ∧ (ofS l zero).cst ≤ topF (ofS l zero) + 1 then ⟨0, (ofS l zero).offs⟩ else ofS l zero
def flattenV (l : L) (zero : List Bool) : V := if RightS l zero.length 0 = true then .tu [.ag (cF (flattenF l zero)), .i .i64 0] else .tu [.ag (cF ⟨0, []⟩), .i .i64 1]
theorem RightS_ok {l : L} {p q : Nat} (h : RightS l p q = true) : p ≤ 5 ∧ rightS l p q 12 = true := by
  unfold RightS at h
  split at h
  · cases h
  · simp only [Bool.and_eq_true] at h
    exact ⟨by omega, h.2⟩
theorem flat_Flatten.a (l : L) (ok : l.Ok) (zero : List Bool) (hz : zero.length ≤ 1000000) : Ans ctx flat_Flatten.n [.ag (cL l), sV cB zero] (flattenV l zero) := by
  refine ans flat_Flatten.f ?_
  have hR := level_Right.a l ok zero.length 0
  unfold flattenV
  cases h1 : RightS l zero.length 0 with
  | false =>
    rw [h1] at hR
    simp +contextual (disch := omega) [Nat.add_assoc, Int.add_assoc, if_pos, if_neg, -Int.not_lt, -Int.not_le, -Nat.not_lt, -Nat.not_le, -List.length_flatMap, flat_Flatten.c, ansK hR]
    rfl
  | true =>
    rw [h1] at hR
    obtain ⟨hp, hr⟩ := RightS_ok (q := 0) h1
    have hbd := ofS_bd l zero 12 hr
    simp +contextual (disch := omega) [Nat.add_assoc, Int.add_assoc, if_pos, if_neg, -Int.not_lt, -Int.not_le, -Nat.not_lt, -Nat.not_le, -List.length_flatMap, flat_Flatten.c, ansK hR]
    rw [CallX_op (by rfl)]
    refine openg_w rfl rfl (.inl rfl) ?_
    have hfo : ctx.frz flat_of.n = false := rfl
    rw [hfo]
    refine flat_of.w l ok zero 12 hp (by omega) hr ?_
    intro B m1 x1 hx1 hm1 hB ho
    have y1 : m1 1 = some (.cells [.i .i64 0, .ns] false) := by rw [hm1 1 (by omega)]; simp +contextual (disch := omega) [Nat.add_assoc, Int.add_assoc, if_pos, if_neg, -Int.not_lt, -Int.not_le, -Nat.not_lt, -Nat.not_le, -List.length_flatMap]
    have hst := hB.stor
    have hT := flat_Top.a (ofS l zero) (by rw [hbd.1]; omega)
    have hbt : -1 ≤ topF (ofS l zero) ∧ topF (ofS l zero) ≤ 11 := ⟨fmax_ge _ _, fmax_le _ _ _ (by omega) (fun a ha => (hbd.2.2 a ha).2)⟩
    have hcF : V.ag [.i .i64 (ofS l zero).cst, sV cI (ofS l zero).offs] = .ag (cF (ofS l zero)) := rfl
    have hEM := (hB.up (m' := (m1.set x1 (some (.cells [.i .i64 0, .ns] false))).set x1 (some (.cells [.i .i64 (ofS l zero).cst, B] false))) (Nat.le_refl _) (Nat.le_refl _) (fun j h1 h2 => by simp +contextual (disch := omega) [Nat.add_assoc, Int.add_assoc, if_pos, if_neg, -Int.not_lt, -Int.not_le, -Nat.not_lt, -Nat.not_le, -List.length_flatMap])).bf.fz24
    have hBz : ∀ M' : Sto, (∀ j, 6 ≤ j → j < x1 → M' j = m1 j) → frzW (der M' 40) B = some (sV cI (ofS l zero).offs, refOf B) := fun M' h => (hB.up (Nat.le_refl _) (Nat.le_refl _) (fun j h1 h2 => h j (by omega) h2)).bf.fz24
    by_cases c1 : topF (ofS l zero) = -1
    · have e1 : flattenF l zero = ofS l zero := by simp [flattenF, c1]
      simp +contextual (disch := omega) [Nat.add_assoc, Int.add_assoc, if_pos, if_neg, -Int.not_lt, -Int.not_le, -Nat.not_lt, -Nat.not_le, -List.length_flatMap, hst.1, hst.2.1, hEM, hcF, ansK hT, c1, y1, e1]
      rw [hBz _ (fun j h1 h2 => by simp +contextual (disch := omega) [Nat.add_assoc, Int.add_assoc, if_pos, if_neg, -Int.not_lt, -Int.not_le, -Nat.not_lt, -Nat.not_le, -List.length_flatMap])]
      simp +contextual (disch := omega) [Nat.add_assoc, Int.add_assoc, if_pos, if_neg, -Int.not_lt, -Int.not_le, -Nat.not_lt, -Nat.not_le, -List.length_flatMap, cF]
    · by_cases c2 : (ofS l zero).cst ≤ topF (ofS l zero) + 1
      · have e1 : flattenF l zero = ⟨0, (ofS l zero).offs⟩ := by simp [flattenF, c1, c2]
        simp +contextual (disch := omega) [Nat.add_assoc, Int.add_assoc, if_pos, if_neg, -Int.not_lt, -Int.not_le, -Nat.not_lt, -Nat.not_le, -List.length_flatMap, hst.1, hst.2.1, hEM, hcF, ansK hT, c1, c2, y1, e1]
        rw [hBz _ (fun j h1 h2 => by simp +contextual (disch := omega) [Nat.add_assoc, Int.add_assoc, if_pos, if_neg, -Int.not_lt, -Int.not_le, -Nat.not_lt, -Nat.not_le, -List.length_flatMap])]
        simp +contextual (disch := omega) [Nat.add_assoc, Int.add_assoc, if_pos, if_neg, -Int.not_lt, -Int.not_le, -Nat.not_lt, -Nat.not_le, -List.length_flatMap, cF]
      · have e1 : flattenF l zero = ofS l zero := by simp [flattenF, c2]
        simp +contextual (disch := omega) [Nat.add_assoc, Int.add_assoc, if_pos, if_neg, -Int.not_lt, -Int.not_le, -Nat.not_lt, -Nat.not_le, -List.length_flatMap, hst.1, hst.2.1, hEM, hcF, ansK hT, c1, c2, y1, e1]
        rw [hBz _ (fun j h1 h2 => by simp +contextual (disch := omega) [Nat.add_assoc, Int.add_assoc, if_pos, if_neg, -Int.not_lt, -Int.not_le, -Nat.not_lt, -Nat.not_le, -List.length_flatMap])]
        simp +contextual (disch := omega) [Nat.add_assoc, Int.add_assoc, if_pos, if_neg, -Int.not_lt, -Int.not_le, -Nat.not_lt, -Nat.not_le, -List.length_flatMap, cF]
end Pi


set_option linter.unusedSimpArgs false
set_option linter.unusedVariables false
namespace Pi
end Pi


set_option linter.unusedSimpArgs false
set_option linter.unusedVariables false
namespace Pi
def okA (vars : Int) (a : A) : Bool := decide (0 ≤ a.var) && decide (a.var < vars) && decide (0 ≤ a.off) && decide (a.off ≤ 1000)
def manyC (c : C) : Bool := decide ((c.frm.length : Int) < 1) || decide (6 < (c.frm.length : Int))
def okC (vars : Int) (c : C) : Bool := !manyC c && (c.frm ++ [c.to]).all (okA vars)
def rightC (vars : Int) (l : List C) : Bool := decide (1 ≤ vars) && decide (vars ≤ 16) && decide ((l.length : Int) ≤ 60) && l.all (okC vars)
/-- What an atom is, by a model. -/
def atS (model : List Int) (a : A) : Int := model.getD a.var.toNat 0 - a.off
def minS (model : List Int) (l : List A) : Int := (l.map (atS model)).foldl min (atS model (l.getD 0 default))
def asksS (model : List Int) (c : C) : Int := minS model c.frm + c.to.off
def brokenC (model : List Int) (c : C) : Bool := decide (model.getD c.to.var.toNat 0 < asksS model c)
/-- By how much a clause asks for more, at most. -/
def mostS (l : List C) : Int := l.foldl (fun n c => c.frm.foldl (fun n a => max n (c.to.off - a.off)) n) 0
theorem mostS_nonneg (l : List C) : 0 ≤ mostS l := by
  unfold mostS
  refine fold_inv (P := fun n : Int => 0 ≤ n) ?_ (by omega)
  intro b c _ hb
  refine fold_inv (P := fun n : Int => 0 ≤ n) ?_ hb
  intro b a _ hb
  omega
end Pi


set_option linter.unusedSimpArgs false
set_option linter.unusedVariables false
namespace Pi
theorem fold_min_le (l : List Int) : ∀ b : Int, l.foldl min b ≤ b ∧ ∀ x ∈ l, l.foldl min b ≤ x := by
  induction l with
  | nil => intro b; simp
  | cons a r ih =>
    intro b
    simp only [List.foldl_cons]
    have h := ih (min b a)
    refine ⟨by omega, fun x hx => ?_⟩
    simp at hx
    rcases hx with rfl | hx
    · omega
    · exact h.2 x hx
theorem fold_min_mem (l : List Int) : ∀ b : Int, l.foldl min b = b ∨ l.foldl min b ∈ l := by
  induction l with
  | nil => intro b; simp
  | cons a r ih =>
    intro b
    simp only [List.foldl_cons, List.mem_cons]
    rcases ih (min b a) with h | h
    · rw [h]; omega
    · exact .inr (.inr h)
theorem minS_le (m : List Int) (l : List A) (a : A) (h : a ∈ l) : minS m l ≤ atS m a := (fold_min_le _ _).2 _ (List.mem_map_of_mem h)
theorem minS_mem (m : List Int) (l : List A) (h : l ≠ []) : ∃ a ∈ l, minS m l = atS m a := by
  rcases fold_min_mem (l.map (atS m)) (atS m (l.getD 0 default)) with h1 | h1
  · cases l with
    | nil => exact absurd rfl h
    | cons a r => exact ⟨a, by simp, h1⟩
  · obtain ⟨a, h2, h3⟩ := List.mem_map.1 h1
    exact ⟨a, h2, h3.symm⟩
theorem holds_at {m : List Int} {c : C} : brokenC m c = false ↔ asksS m c ≤ m.getD c.to.var.toNat 0 := by
  unfold brokenC
  simp only [decide_eq_false_iff_not]
  omega
theorem okC_ne {vars : Int} {c : C} (h : okC vars c = true) : c.frm ≠ [] := by
  intro h0
  unfold okC at h
  simp [manyC, h0] at h
theorem okC_six {vars : Int} {c : C} (h : okC vars c = true) : c.frm.length ≤ 6 := by
  simp [okC, manyC] at h
  omega
theorem okC_to {vars : Int} {c : C} (h : okC vars c = true) : 0 ≤ c.to.var ∧ c.to.var < vars ∧ 0 ≤ c.to.off ∧ c.to.off ≤ 1000 := by
  unfold okC at h
  simp only [Bool.and_eq_true, List.all_eq_true] at h
  have := h.2 c.to (by simp)
  simp only [okA, Bool.and_eq_true, decide_eq_true_eq] at this
  omega
theorem okC_frm {vars : Int} {c : C} (h : okC vars c = true) {a : A} (ha : a ∈ c.frm) : 0 ≤ a.var ∧ a.var < vars ∧ 0 ≤ a.off ∧ a.off ≤ 1000 := by
  unfold okC at h
  simp only [Bool.and_eq_true, List.all_eq_true] at h
  have := h.2 a (by simp [ha])
  simp only [okA, Bool.and_eq_true, decide_eq_true_eq] at this
  omega
/-- Models with as much more each: what is broken is the same. -/
theorem broken_up {vars : Nat} (m up : List Int) (c : C) (k : Int) (h : okC vars c = true) (hu : ∀ i, i < vars → up.getD i 0 = m.getD i 0 + k) : brokenC up c = brokenC m c := by
  unfold okC at h
  simp only [Bool.and_eq_true, Bool.not_eq_true', List.all_eq_true] at h
  obtain ⟨h1, h2⟩ := h
  have hne : c.frm ≠ [] := by
    intro h0
    rw [manyC, h0] at h1
    simp at h1
  have hat : ∀ a ∈ c.frm ++ [c.to], atS up a = atS m a + k := by
    intro a ha
    have := h2 a ha
    simp only [okA, Bool.and_eq_true, decide_eq_true_eq] at this
    have := hu a.var.toNat (by omega)
    unfold atS
    omega
  have hto := h2 c.to (by simp)
  simp only [okA, Bool.and_eq_true, decide_eq_true_eq] at hto
  have hto2 := hu c.to.var.toNat (by omega)
  have hmin : minS up c.frm = minS m c.frm + k := by
    obtain ⟨a, a1, a2⟩ := minS_mem up c.frm hne
    obtain ⟨b, b1, b2⟩ := minS_mem m c.frm hne
    have := minS_le up c.frm b b1
    have := minS_le m c.frm a a1
    have := hat a (by simp [a1])
    have := hat b (by simp [b1])
    omega
  unfold brokenC asksS
  rw [hto2, hmin]
  congr 1
  apply propext
  omega
end Pi


set_option linter.unusedSimpArgs false
set_option linter.unusedVariables false
namespace Pi
end Pi


set_option linter.unusedSimpArgs false
set_option linter.unusedVariables false
namespace Pi
theorem slices_IndexFunc_Clause.a (l : List C) (g : Nat) (caps : List V) (p : C → Bool) (hg : (ctx.opn g || ctx.frz g) = false) (hpr : ctx.prim g = none) (hc : ∀ D, frzL D caps = some (caps, [])) (h : ∀ k ∈ l, Ans ctx g ((.ag (cC k)) :: caps) (.b (p k))) (hl : l.length ≤ 9223372036854775807) :
    Ans ctx slices_IndexFunc_Clause.n [sV cC l, .fn (.func g) [] caps] (.i .i64 (idxS p l)) := by
  refine ans slices_IndexFunc_Clause.f ?_
  simp +contextual (disch := omega) [Nat.add_assoc, Int.add_assoc, if_pos, if_neg, -Int.not_lt, -Int.not_le, -Nat.not_lt, -Nat.not_le, -List.length_flatMap, slices_IndexFunc_Clause.c]
  refine for_w (fun i e m x => e 0 = sV cC l ∧ e 1 = .fn (.func g) [] caps ∧ e 7 = .i .i64 l.length ∧ e 8 = .i .i64 i ∧ (l.take i).all (fun a => !p a) = true) l.length ?_ ?_ ?_
  · simp +contextual (disch := omega) [Nat.add_assoc, Int.add_assoc, if_pos, if_neg, -Int.not_lt, -Int.not_le, -Nat.not_lt, -Nat.not_le, -List.length_flatMap]
  · rintro i e m x hi ⟨g1, g2, g3, g4, g5⟩
    have hk := h l[i] (List.getElem_mem hi)
    obtain ⟨q1, q2⟩ := idx_take hi g5
    cases hp : p l[i] with
    | true =>
      rw [hp] at hk
      simp +contextual (disch := omega) [Nat.add_assoc, Int.add_assoc, if_pos, if_neg, -Int.not_lt, -Int.not_le, -Nat.not_lt, -Nat.not_le, -List.length_flatMap, slices_IndexFunc_Clause.b1, g1, g2, g3, g4, hi, CallX_cl (C := ctx) (g := g) hpr (orF hg).1 (orF hg).2, hc, ansK hk, q1 hp]
    | false =>
      rw [hp] at hk
      simp +contextual (disch := omega) [Nat.add_assoc, Int.add_assoc, if_pos, if_neg, -Int.not_lt, -Int.not_le, -Nat.not_lt, -Nat.not_le, -List.length_flatMap, slices_IndexFunc_Clause.b1, g1, g2, g3, g4, hi, CallX_cl (C := ctx) (g := g) hpr (orF hg).1 (orF hg).2, hc, ansK hk, q2 hp]
  · rintro e m x ⟨g1, g2, g3, g4, g5⟩
    rw [List.take_length] at g5
    simp +contextual (disch := omega) [Nat.add_assoc, Int.add_assoc, if_pos, if_neg, -Int.not_lt, -Int.not_le, -Nat.not_lt, -Nat.not_le, -List.length_flatMap, slices_IndexFunc_Clause.b1, g1, g2, g3, g4, idx_all g5]
theorem slices_ContainsFunc_Clause.a (l : List C) (g : Nat) (caps : List V) (p : C → Bool) (hg : (ctx.opn g || ctx.frz g) = false) (hpr : ctx.prim g = none) (hc : ∀ D, frzL D caps = some (caps, [])) (h : ∀ k ∈ l, Ans ctx g ((.ag (cC k)) :: caps) (.b (p k))) (hl : l.length ≤ 9223372036854775807) :
    Ans ctx slices_ContainsFunc_Clause.n [sV cC l, .fn (.func g) [] caps] (.b (l.any p)) := by
  refine ans slices_ContainsFunc_Clause.f ?_
  simp +contextual (disch := omega) [Nat.add_assoc, Int.add_assoc, if_pos, if_neg, -Int.not_lt, -Int.not_le, -Nat.not_lt, -Nat.not_le, -List.length_flatMap, slices_ContainsFunc_Clause.c, hc, ansK (slices_IndexFunc_Clause.a l g caps p hg hpr hc h hl), idx_ge]
/-- Room for as many, behind no slice. -/
theorem grow_Atom.w {m : Sto} {x : Nat} {n : Int} {K : CR → Sto → Nat → Prop} (hn : 0 ≤ n ∧ n ≤ 2147483648)
    (hK : ∀ B m' x', x ≤ x' → Bf m' B cA 2 [] x x' → (∀ j, j < x → m' j = m j) → K (.ret B) m' x') :
    wpCall ctx (.fn (.func slices_Grow_Atom.n) [] []) [.ns, .i .i64 n] m x K := by
  refine openg_w slices_Grow_Atom.f rfl (.inl rfl) ?_
  by_cases h0 : n = 0
  · subst h0
    simp +contextual (disch := omega) [Nat.add_assoc, Int.add_assoc, if_pos, if_neg, -Int.not_lt, -Int.not_le, -Nat.not_lt, -Nat.not_le, -List.length_flatMap, slices_Grow_Atom.c]
    exact hK .ns m _ (by omega) .nil (fun _ _ => rfl)
  · simp +contextual (disch := omega) [Nat.add_assoc, Int.add_assoc, if_pos, if_neg, -Int.not_lt, -Int.not_le, -Nat.not_lt, -Nat.not_le, -List.length_flatMap, slices_Grow_Atom.c]
    exact hK _ _ _ (by omega) (.memr (cs := zeros ([V.i .i64 0, V.i .i64 0]) n.toNat) (by simp) ⟨by simp, by simp, fun D => frzL_zeros (by simp) D _⟩ rfl (by omega) (by omega)) (by simp +contextual (disch := omega) [Nat.add_assoc, Int.add_assoc, if_pos, if_neg, -Int.not_lt, -Int.not_le, -Nat.not_lt, -Nat.not_le, -List.length_flatMap])
theorem slices_Concat_Atom.a (a b : List A) (h : a.length + b.length ≤ 1000000) : Ans ctx slices_Concat_Atom.n [.sl [sV cA a, sV cA b] 2] (sV cA (a ++ b)) := by
  refine ans slices_Concat_Atom.f ?_
  simp +contextual (disch := omega) [Nat.add_assoc, Int.add_assoc, if_pos, if_neg, -Int.not_lt, -Int.not_le, -Nat.not_lt, -Nat.not_le, -List.length_flatMap, slices_Concat_Atom.c]
  refine un_w ?_
  simp +contextual (disch := omega) [Nat.add_assoc, Int.add_assoc, if_pos, if_neg, -Int.not_lt, -Int.not_le, -Nat.not_lt, -Nat.not_le, -List.length_flatMap, slices_Concat_Atom.b1]
  refine un_w ?_
  simp +contextual (disch := omega) [Nat.add_assoc, Int.add_assoc, if_pos, if_neg, -Int.not_lt, -Int.not_le, -Nat.not_lt, -Nat.not_le, -List.length_flatMap, slices_Concat_Atom.b1]
  refine un_w ?_
  simp +contextual (disch := omega) [Nat.add_assoc, Int.add_assoc, if_pos, if_neg, -Int.not_lt, -Int.not_le, -Nat.not_lt, -Nat.not_le, -List.length_flatMap, slices_Concat_Atom.b1]
  refine grow_Atom.w (by omega) ?_
  intro B m' x' h1 h2 h3
  simp +contextual (disch := omega) [Nat.add_assoc, Int.add_assoc, if_pos, if_neg, -Int.not_lt, -Int.not_le, -Nat.not_lt, -Nat.not_le, -List.length_flatMap]
  refine un_w ?_
  simp +contextual (disch := omega) [Nat.add_assoc, Int.add_assoc, if_pos, if_neg, -Int.not_lt, -Int.not_le, -Nat.not_lt, -Nat.not_le, -List.length_flatMap, slices_Concat_Atom.b2]
  refine h2.ap a (by simp +contextual (disch := omega) [Nat.add_assoc, Int.add_assoc, if_pos, if_neg, -Int.not_lt, -Int.not_le, -Nat.not_lt, -Nat.not_le, -List.length_flatMap]) (by omega) (by omega) rfl rfl (by simp; omega) ?_
  intro B' ws m2 q0 q1 q2 q3
  simp +contextual (disch := omega) [Nat.add_assoc, Int.add_assoc, if_pos, if_neg, -Int.not_lt, -Int.not_le, -Nat.not_lt, -Nat.not_le, -List.length_flatMap, q0]
  refine un_w ?_
  simp +contextual (disch := omega) [Nat.add_assoc, Int.add_assoc, if_pos, if_neg, -Int.not_lt, -Int.not_le, -Nat.not_lt, -Nat.not_le, -List.length_flatMap, slices_Concat_Atom.b2]
  refine q1.ap b (by simp +contextual (disch := omega) [Nat.add_assoc, Int.add_assoc, if_pos, if_neg, -Int.not_lt, -Int.not_le, -Nat.not_lt, -Nat.not_le, -List.length_flatMap]) (by omega) (by omega) rfl rfl (by simp; omega) ?_
  intro B2 ws2 m3 p0 p1 p2 p3
  simp +contextual (disch := omega) [Nat.add_assoc, Int.add_assoc, if_pos, if_neg, -Int.not_lt, -Int.not_le, -Nat.not_lt, -Nat.not_le, -List.length_flatMap, p0]
  refine un_w ?_
  have hz := p1.fz24
  simp +contextual (disch := omega) [Nat.add_assoc, Int.add_assoc, if_pos, if_neg, -Int.not_lt, -Int.not_le, -Nat.not_lt, -Nat.not_le, -List.length_flatMap, slices_Concat_Atom.b2, hz]
def atomsC (c : C) : List A := c.frm ++ [c.to]
theorem atoms_w {l : List C} (hl : l.length ≤ 1000000) (hf : ∀ c ∈ l, c.frm.length ≤ 100000) {ll x0 : Nat} {m : Sto} {K : CR → Sto → Nat → Prop} (I : Nat → Nat → Sto → Prop) (E : Sto → Prop)
    (fr : ∀ i k m m', I i k m → (∀ j, j < x0 → m' j = m j) → I i k m') (h0 : I 0 0 m)
    (hs : ∀ (i : Nat) (hi : i < l.length) (k : Nat) (hk : k < (atomsC l[i]).length) m x K', x0 ≤ x → I i k m → (∀ m' x', x ≤ x' → I i (k + 1) m' → K' (.ret (.b true)) m' x') → (∀ m' x', x ≤ x' → E m' → K' (.ret (.b false)) m' x') →
      wpCall ctx (.fn (.yield ll) [] []) [.i .i64 i, .ag (cA (atomsC l[i])[k])] m x K')
    (hr : ∀ (i : Nat) (hi : i < l.length) m, I i (atomsC l[i]).length m → I (i + 1) 0 m)
    (hd : ∀ m' x', x0 ≤ x' → I l.length 0 m' → K (.ret (.tu [])) m' x') (he : ∀ m' x', x0 ≤ x' → E m' → K (.ret (.tu [])) m' x') :
    wpCall ctx (.fn (.func horn_atoms_1.n) [] [.rp [sV cC l]]) [.fn (.yield ll) [] []] m x0 K := by
  refine openg_w horn_atoms_1.f rfl (.inr (by simp +contextual (disch := omega) [Nat.add_assoc, Int.add_assoc, if_pos, if_neg, -Int.not_lt, -Int.not_le, -Nat.not_lt, -Nat.not_le, -List.length_flatMap])) ?_
  simp +contextual (disch := omega) [Nat.add_assoc, Int.add_assoc, if_pos, if_neg, -Int.not_lt, -Int.not_le, -Nat.not_lt, -Nat.not_le, -List.length_flatMap, horn_atoms_1.c]
  refine for_w (fun i e m x => e 0 = .fn (.yield ll) [] [] ∧ e 7 = sV cC l ∧ e 8 = .i .i64 l.length ∧ e 9 = .i .i64 i ∧ x0 ≤ x ∧ I i 0 m) l.length ?_ ?_ ?_
  · simp +contextual (disch := omega) [Nat.add_assoc, Int.add_assoc, if_pos, if_neg, -Int.not_lt, -Int.not_le, -Nat.not_lt, -Nat.not_le, -List.length_flatMap]
    exact h0
  · rintro i e m x hi ⟨g1, g2, g3, g4, g5, g6⟩
    have hfi := hf l[i] (List.getElem_mem hi)
    have hal : (atomsC l[i]).length = l[i].frm.length + 1 := by simp [atomsC]
    have hcat := slices_Concat_Atom.a l[i].frm [l[i].to] (by simp; omega)
    have hc1 : sV cA [l[i].to] = .sl (cA l[i].to) 1 := rfl
    rw [hc1] at hcat
    simp +contextual (disch := omega) [Nat.add_assoc, Int.add_assoc, if_pos, if_neg, -Int.not_lt, -Int.not_le, -Nat.not_lt, -Nat.not_le, -List.length_flatMap, horn_atoms_1.b2, g1, g2, g3, g4, hi, ansK hcat]
    have hg : ∀ m', (∀ j, j < x0 → m' j = m j) → I i 0 m' := fun m' h => fr _ _ _ _ g6 h
    refine for_w (fun k e m x => e 0 = .fn (.yield ll) [] [] ∧ e 3 = .i .i64 i ∧ e 7 = sV cC l ∧ e 8 = .i .i64 l.length ∧ e 9 = .i .i64 i ∧ e 20 = sV cA (atomsC l[i]) ∧ e 21 = .i .i64 (atomsC l[i]).length ∧ e 22 = .i .i64 k ∧ x0 ≤ x ∧ I i k m) (atomsC l[i]).length ?_ ?_ ?_
    · simp +contextual (disch := omega) [Nat.add_assoc, Int.add_assoc, if_pos, if_neg, -Int.not_lt, -Int.not_le, -Nat.not_lt, -Nat.not_le, -List.length_flatMap, g1, g2, g3, g4]
      refine ⟨rfl, by simp [atomsC], by omega, hg _ (by simp +contextual (disch := omega) [Nat.add_assoc, Int.add_assoc, if_pos, if_neg, -Int.not_lt, -Int.not_le, -Nat.not_lt, -Nat.not_le, -List.length_flatMap])⟩
    · rintro k e m x hk ⟨q1, q2, q3, q4, q5, q6, q7, q8, q9, q10⟩
      simp +contextual (disch := omega) [Nat.add_assoc, Int.add_assoc, if_pos, if_neg, -Int.not_lt, -Int.not_le, -Nat.not_lt, -Nat.not_le, -List.length_flatMap, horn_atoms_1.b1, q1, q2, q3, q4, q5, q6, q7, q8, hk]
      refine hs i hi k hk _ _ _ (by omega) (fr _ _ _ _ q10 (by simp +contextual (disch := omega) [Nat.add_assoc, Int.add_assoc, if_pos, if_neg, -Int.not_lt, -Int.not_le, -Nat.not_lt, -Nat.not_le, -List.length_flatMap])) ?_ ?_
      · intro m' x' p1 p2
        simp +contextual (disch := omega) [Nat.add_assoc, Int.add_assoc, if_pos, if_neg, -Int.not_lt, -Int.not_le, -Nat.not_lt, -Nat.not_le, -List.length_flatMap, q1, q2, q3, q4, q5, q6, q7, q8]
        exact ⟨by omega, p2⟩
      · intro m' x' p1 p2
        simp +contextual (disch := omega) [Nat.add_assoc, Int.add_assoc, if_pos, if_neg, -Int.not_lt, -Int.not_le, -Nat.not_lt, -Nat.not_le, -List.length_flatMap]
        exact he _ _ (by omega) p2
    · rintro e m x ⟨q1, q2, q3, q4, q5, q6, q7, q8, q9, q10⟩
      simp +contextual (disch := omega) [Nat.add_assoc, Int.add_assoc, if_pos, if_neg, -Int.not_lt, -Int.not_le, -Nat.not_lt, -Nat.not_le, -List.length_flatMap, horn_atoms_1.b1, q1, q2, q3, q4, q5, q6, q7, q8]
      exact ⟨by omega, hr i hi _ q10⟩
  · rintro e m x ⟨g1, g2, g3, g4, g5, g6⟩
    simp +contextual (disch := omega) [Nat.add_assoc, Int.add_assoc, if_pos, if_neg, -Int.not_lt, -Int.not_le, -Nat.not_lt, -Nat.not_le, -List.length_flatMap, horn_atoms_1.b2, g1, g2, g3, g4]
    exact hd _ _ (by omega) g6
theorem horn_atoms.a (l : List C) : Ans ctx horn_atoms.n [sV cC l] (.fn (.func horn_atoms_1.n) [] [.rp [sV cC l]]) := by
  refine ans horn_atoms.f ?_
  simp +contextual (disch := omega) [Nat.add_assoc, Int.add_assoc, if_pos, if_neg, -Int.not_lt, -Int.not_le, -Nat.not_lt, -Nat.not_le, -List.length_flatMap, horn_atoms.c]
theorem horn_Right_1.a (c : C) (h : c.frm.length ≤ 9223372036854775807) : Ans ctx horn_Right_1.n [.ag (cC c)] (.b (manyC c)) := by
  refine ans horn_Right_1.f ?_
  simp +contextual (disch := omega) [Nat.add_assoc, Int.add_assoc, if_pos, if_neg, -Int.not_lt, -Int.not_le, -Nat.not_lt, -Nat.not_le, -List.length_flatMap, horn_Right_1.c, manyC]
theorem okC_atoms (vars : Int) (c : C) : okC vars c = (!manyC c && (atomsC c).all (okA vars)) := rfl
theorem horn_Right.a (vars : Int) (l : List C) (hl : l.length ≤ 9223372036854775807) (hf : ∀ c ∈ l, c.frm.length ≤ 9223372036854775807) : Ans ctx horn_Right.n [.i .i64 vars, sV cC l] (.b (rightC vars l)) := by
  refine ans horn_Right.f ?_
  have hcf := slices_ContainsFunc_Clause.a l horn_Right_1.n [] manyC rfl rfl (by simp) (fun c hc => horn_Right_1.a c (hf c hc)) (by omega)
  by_cases h1 : vars < 1
  · have e : rightC vars l = false := by simp [rightC]; omega
    simp +contextual (disch := omega) [Nat.add_assoc, Int.add_assoc, if_pos, if_neg, -Int.not_lt, -Int.not_le, -Nat.not_lt, -Nat.not_le, -List.length_flatMap, horn_Right.c, e]
  by_cases h2 : 16 < vars
  · have e : rightC vars l = false := by simp [rightC]; omega
    simp +contextual (disch := omega) [Nat.add_assoc, Int.add_assoc, if_pos, if_neg, -Int.not_lt, -Int.not_le, -Nat.not_lt, -Nat.not_le, -List.length_flatMap, horn_Right.c, e]
  by_cases h3 : 60 < l.length
  · have e : rightC vars l = false := by simp [rightC]; omega
    simp +contextual (disch := omega) [Nat.add_assoc, Int.add_assoc, if_pos, if_neg, -Int.not_lt, -Int.not_le, -Nat.not_lt, -Nat.not_le, -List.length_flatMap, horn_Right.c, e]
  have er : rightC vars l = l.all (okC vars) := by simp [rightC]; omega
  cases hm : l.any manyC with
  | true =>
    have e : rightC vars l = false := by
      rw [er, List.all_eq_false]
      obtain ⟨c, c1, c2⟩ := List.any_eq_true.1 hm
      exact ⟨c, c1, by simp [okC, c2]⟩
    rw [hm] at hcf
    simp +contextual (disch := omega) [Nat.add_assoc, Int.add_assoc, if_pos, if_neg, -Int.not_lt, -Int.not_le, -Nat.not_lt, -Nat.not_le, -List.length_flatMap, horn_Right.c, e, ansK hcf]
  | false =>
    have e2 : l.all (okC vars) = l.all fun c => (atomsC c).all (okA vars) := by
      rw [Bool.eq_iff_iff]
      simp only [List.all_eq_true]
      have hm' := List.any_eq_false.1 hm
      exact ⟨fun h c hc => by have := h c hc; rw [okC_atoms] at this; simp at this; simpa using this.2, fun h c hc => by rw [okC_atoms]; have := hm' c hc; simp at this; simpa [this] using h c hc⟩
    have hs6 : ∀ c ∈ l, c.frm.length ≤ 100000 := fun c hc => by
      have := List.any_eq_false.1 hm c hc
      simp [manyC] at this
      omega
    rw [hm] at hcf
    simp +contextual (disch := omega) [Nat.add_assoc, Int.add_assoc, if_pos, if_neg, -Int.not_lt, -Int.not_le, -Nat.not_lt, -Nat.not_le, -List.length_flatMap, horn_Right.c, ansK hcf, ansK (horn_atoms.a l)]
    rw [er, e2]
    refine gen_e (fun E => E 2 = .p 0 0 ∧ E 4 = .p 1 0 ∧ E 25 = .fn (.func horn_atoms_1.n) [] [.rp [sV cC l]]) (by simp +contextual (disch := omega) [Nat.add_assoc, Int.add_assoc, if_pos, if_neg, -Int.not_lt, -Int.not_le, -Nat.not_lt, -Nat.not_le, -List.length_flatMap]) ?_
    rintro E ⟨E1, E2, E3⟩
    refine rf_g fun A B hA hB => ?_
    simp +contextual (disch := omega) [Nat.add_assoc, Int.add_assoc, if_pos, if_neg, -Int.not_lt, -Int.not_le, -Nat.not_lt, -Nat.not_le, -List.length_flatMap, E3]
    refine atoms_w (by omega) hs6 (fun i k m => m 19 = some .dfr ∧ m 20 = some (.loop ⟨E, [26, 27], A, B, .ready, none⟩) ∧ m 0 = some (.cells [.i .i64 vars] false) ∧ m 1 = some (.cells [.b false] false) ∧
        (l.take i).all (fun c => (atomsC c).all (okA vars)) = true ∧ ∀ (hi : i < l.length), ((atomsC l[i]).take k).all (okA vars) = true)
      (fun m => m 19 = some .dfr ∧ m 20 = some (.loop ⟨E, [26, 27], A, B, .done, some .ret⟩) ∧ m 1 = some (.cells [.b false] false) ∧ l.all (fun c => (atomsC c).all (okA vars)) = false) ?_ ?_ ?_ ?_ ?_ ?_
    · rintro i k m m' ⟨q1, q2, q3, q4, q5, q6⟩ h
      exact ⟨(h _ (by omega)).trans q1, (h _ (by omega)).trans q2, (h _ (by omega)).trans q3, (h _ (by omega)).trans q4, q5, q6⟩
    · simp +contextual (disch := omega) [Nat.add_assoc, Int.add_assoc, if_pos, if_neg, -Int.not_lt, -Int.not_le, -Nat.not_lt, -Nat.not_le, -List.length_flatMap]
    · rintro i hi k hk m x K' hx ⟨q1, q2, q3, q4, q5, q6⟩ ht hf'
      have q6 := q6 hi
      refine yield_w q2 rfl rfl ?_
      generalize ha : (atomsC l[i])[k] = a
      cases hok : okA vars a with
      | true =>
        have hok' := hok
        simp only [okA, Bool.and_eq_true, decide_eq_true_eq] at hok'
        refine w_as hA ?_
        simp +contextual (disch := omega) [Nat.add_assoc, Int.add_assoc, if_pos, if_neg, -Int.not_lt, -Int.not_le, -Nat.not_lt, -Nat.not_le, -List.length_flatMap, horn_Right.a1, q2]
        refine w_as hB ?_
        simp +contextual (disch := omega) [Nat.add_assoc, Int.add_assoc, if_pos, if_neg, -Int.not_lt, -Int.not_le, -Nat.not_lt, -Nat.not_le, -List.length_flatMap, horn_Right.b2, q1, q2, q3, q4, E1, E2]
        refine ht _ _ (by omega) ?_
        simp +contextual (disch := omega) [Nat.add_assoc, Int.add_assoc, if_pos, if_neg, -Int.not_lt, -Int.not_le, -Nat.not_lt, -Nat.not_le, -List.length_flatMap, q1, q2, q3, q4, q5, take_all hk q6 (ha ▸ hok)]
      | false =>
        have hok' : a.var < 0 ∨ (0 ≤ a.var ∧ vars ≤ a.var) ∨ (0 ≤ a.var ∧ a.var < vars ∧ a.off < 0) ∨ (0 ≤ a.var ∧ a.var < vars ∧ 0 ≤ a.off ∧ 1000 < a.off) := by
          simp [okA] at hok; omega
        have hbad : l.all (fun c => (atomsC c).all (okA vars)) = false := by
          rw [List.all_eq_false]
          refine ⟨l[i], List.getElem_mem hi, ?_⟩
          have : (atomsC l[i]).all (okA vars) = false := List.all_eq_false.2 ⟨_, List.getElem_mem hk, by rw [ha, hok]; simp⟩
          simp [this]
        refine w_as hA ?_
        simp +contextual (disch := omega) [Nat.add_assoc, Int.add_assoc, if_pos, if_neg, -Int.not_lt, -Int.not_le, -Nat.not_lt, -Nat.not_le, -List.length_flatMap, horn_Right.a1, q2]
        refine w_as hB ?_
        rcases hok' with h | h | h | h
        all_goals (simp +contextual (disch := omega) [Nat.add_assoc, Int.add_assoc, if_pos, if_neg, -Int.not_lt, -Int.not_le, -Nat.not_lt, -Nat.not_le, -List.length_flatMap, horn_Right.b2, q1, q2, q3, q4, E1, E2])
        all_goals (refine hf' _ _ (by omega) ?_; simp +contextual (disch := omega) [Nat.add_assoc, Int.add_assoc, if_pos, if_neg, -Int.not_lt, -Int.not_le, -Nat.not_lt, -Nat.not_le, -List.length_flatMap, q1, hbad])
    · rintro i hi m ⟨q1, q2, q3, q4, q5, q6⟩
      have q6 := q6 hi
      rw [List.take_length] at q6
      exact ⟨q1, q2, q3, q4, take_all hi q5 q6, fun h => by simp⟩
    · rintro m' x' hx ⟨q1, q2, q3, q4, q5, q6⟩
      rw [List.take_length] at q5
      simp +contextual (disch := omega) [Nat.add_assoc, Int.add_assoc, if_pos, if_neg, -Int.not_lt, -Int.not_le, -Nat.not_lt, -Nat.not_le, -List.length_flatMap, q1, q2, q3, q4, E2, q5]
    · rintro m' x' hx ⟨q1, q2, q3, q4⟩
      simp +contextual (disch := omega) [Nat.add_assoc, Int.add_assoc, if_pos, if_neg, -Int.not_lt, -Int.not_le, -Nat.not_lt, -Nat.not_le, -List.length_flatMap, q1, q2, q3, q4, E2]
end Pi

