/- Contracts: flats (layer 6): what a level is in a case. -/
import Derived.Test.YtbkkigmlkafeiaaC02a
set_option linter.unusedSimpArgs false
set_option linter.unusedVariables false
namespace Pi
def plainF (p : Nat) : F := ⟨0, List.replicate p (-1)⟩
def ofK (k n : Int) (zero : List Bool) (fs : List F) : F :=
  if k = 5 then (if zero.getD n.toNat true = true then plainF zero.length else ⟨0, (List.replicate zero.length (-1)).set n.toNat 0⟩)
  else if k = 2 then succF (fs.getD 0 default)
  else if k = 3 then joinF (fs.getD 0 default) (fs.getD 1 default)
  else if k = 4 then (if (fs.getD 1 default).cst = 0 ∧ topF (fs.getD 1 default) = -1 then fs.getD 1 default else joinF (fs.getD 0 default) (fs.getD 1 default))
  else plainF zero.length
mutual
def ofS (l : L) (zero : List Bool) : F := match l with
  | .mk k n ks => ofK k n zero (ofL ks zero)
def ofL (ks : List L) (zero : List Bool) : List F := match ks with
  | [] => []
  | k :: r => ofS k zero :: ofL r zero
end
theorem ofL_eq (ks : List L) (zero : List Bool) : ofL ks zero = ks.map fun k => ofS k zero := by
  induction ks with
  | nil => rfl
  | cons k r ih => simp [ofL, ih]
theorem ofS_eq (l : L) (zero : List Bool) : ofS l zero = ofK l.kind l.n zero (l.kids.map fun k => ofS k zero) := by
  cases l with
  | mk k n ks => simp only [ofS, ofL_eq]; rfl
/-- Flats of some length, whose numbers are no more than some. -/
def Bd (p : Nat) (d : Int) (f : F) : Prop := f.offs.length = p ∧ (0 ≤ f.cst ∧ f.cst ≤ d) ∧ ∀ a ∈ f.offs, -1 ≤ a ∧ a ≤ d
theorem Bd.up {p : Nat} {d d' : Int} {f : F} (h : Bd p d f) (hd : d ≤ d') : Bd p d' f := ⟨h.1, ⟨h.2.1.1, by have := h.2.1.2; omega⟩, fun a ha => by have := h.2.2 a ha; omega⟩
theorem plain_bd (p : Nat) : Bd p 0 (plainF p) := ⟨by simp [plainF], by simp [plainF], fun a ha => by simp [plainF] at ha; omega⟩
theorem succ_bd {p : Nat} {d : Int} {f : F} (h : Bd p d f) : Bd p (d + 1) (succF f) := by
  refine ⟨by simp [succF, h.1], by have := h.2.1; simp [succF]; omega, fun a ha => ?_⟩
  obtain ⟨b, hb, rfl⟩ := List.mem_map.1 ha
  have := h.2.2 b hb
  unfold upO
  split <;> omega
theorem zipM_mem : ∀ {a b : List Int} {c : Int}, c ∈ zipM a b → ∃ x ∈ a, ∃ y ∈ b, c = max x y
  | x :: a, y :: b, c, h => by
    simp only [zipM, List.mem_cons] at h
    rcases h with rfl | h
    · exact ⟨x, by simp, y, by simp, rfl⟩
    · obtain ⟨u, hu, v, hv, e⟩ := zipM_mem h
      exact ⟨u, by simp [hu], v, by simp [hv], e⟩
  | [], _, _, h => by simp [zipM] at h
  | _ :: _, [], _, h => by simp [zipM] at h
theorem join_bd {p : Nat} {d : Int} {f g : F} (h : Bd p d f) (k : Bd p d g) : Bd p d (joinF f g) := by
  refine ⟨by simp only [joinF]; rw [zipM_len (by rw [h.1, k.1]), h.1], ?_, fun a ha => ?_⟩
  · have := h.2.1; have := k.2.1
    simp only [joinF]; omega
  · obtain ⟨x, hx, y, hy, rfl⟩ := zipM_mem ha
    have := h.2.2 x hx; have := k.2.2 y hy
    omega
theorem ofS_bd (l : L) : ∀ (zero : List Bool) (d : Int), rightS l zero.length 0 d = true → Bd zero.length (d - 1) (ofS l zero) := by
  induction l using L.ind with
  | h l ih =>
  intro zero d hr
  obtain ⟨h1, h2, h3, h4⟩ := right_kid hr
  have hv : ∀ i : Nat, i < l.kids.length → Bd zero.length (d - 2) ((l.kids.map fun k => ofS k zero).getD i default) := by
    intro i hi
    have e1 : (l.kids.map fun k => ofS k zero).getD i default = ofS l.kids[i] zero := by simp [hi]
    rw [e1]
    exact (ih _ (List.getElem_mem hi) zero (d - 1) (h4 _ (List.getElem_mem hi))).up (by omega)
  rw [ofS_eq]
  unfold ofK kidsS at *
  split
  · rename_i hk
    split
    · exact (plain_bd _).up (by omega)
    · refine ⟨by simp, by simp; omega, fun a ha => ?_⟩
      rcases List.mem_or_eq_of_mem_set ha with ha | ha
      · have := List.mem_replicate.1 ha; omega
      · omega
  · split
    · rename_i hk
      simp only [hk] at h2
      exact (succ_bd (hv 0 (by simp at h2; omega))).up (by omega)
    · split
      · rename_i hk
        simp only [hk] at h2
        exact (join_bd (hv 0 (by simp at h2; omega)) (hv 1 (by simp at h2; omega))).up (by omega)
      · split
        · rename_i hk
          simp only [hk] at h2
          split
          · exact (hv 1 (by simp at h2; omega)).up (by omega)
          · exact (join_bd (hv 0 (by simp at h2; omega)) (hv 1 (by simp at h2; omega))).up (by omega)
        · exact (plain_bd _).up (by omega)
theorem kids1 {l : L} (h : (l.kids.length : Int) = 1) : ∃ a, l.kids = [a] := by
  match hk : l.kids with
  | [] => rw [hk] at h; simp at h
  | [a] => exact ⟨a, rfl⟩
  | a :: b :: r => rw [hk] at h; simp at h; omega
theorem kids2 {l : L} (h : (l.kids.length : Int) = 2) : ∃ a b, l.kids = [a, b] := by
  match hk : l.kids with
  | [] => rw [hk] at h; simp at h
  | [a] => rw [hk] at h; simp at h
  | [a, b] => exact ⟨a, b, rfl⟩
  | a :: b :: c :: r => rw [hk] at h; simp at h; omega
theorem cL_over (y : Nat) (l : L) : overL y (cL l) = true := by rw [cL_at]; simp [overL, V.over, sV]
set_option maxHeartbeats 2000000 in
theorem flat_of.w (l : L) : l.Ok → ∀ (zero : List Bool) (d : Int), zero.length ≤ 5 → d ≤ 100 → rightS l zero.length 0 d = true → ∀ {m : Sto} {x : Nat} {K : CR → Sto → Nat → Prop}
    (hK : ∀ B m' x', x ≤ x' → (∀ j, j < x → m' j = m j) → Ex m' B (ofS l zero).offs x x' → (∀ y, y ≤ x → Own m y → Own m' y) → K (.ret (.ag [.i .i64 (ofS l zero).cst, B])) m' x'),
    w ctx (envOf [.ag (cL l), sV cB zero]) m x [] none none (RetG ctx flat_of.c.rs K) flat_of.c.code := by
  induction l using L.ind with
  | h l ih =>
  intro ok zero d hz hd hr m x K hK
  obtain ⟨h1, h2, h3, h4⟩ := right_kid hr
  have hbd := ofS_bd l zero d hr
  have hkb := fun k hk => ofS_bd k zero (d - 1) (h4 k hk)
  have hfp : ctx.frz flat_plain.n = false := rfl
  have hfo : ctx.frz flat_of.n = false := rfl
  have hfs : ctx.frz flat_succ.n = false := rfl
  have hfj : ctx.frz flat_join.n = false := rfl
  rw [ofS_eq] at hK hbd
  simp +contextual (disch := omega) [Nat.add_assoc, Int.add_assoc, if_pos, if_neg, -Int.not_lt, -Int.not_le, -Nat.not_lt, -Nat.not_le, -List.length_flatMap, flat_of.c]
  rw [CallX_op (by rfl)]
  refine openg_w rfl rfl (.inl rfl) ?_
  rw [hfp]
  refine flat_plain.w 0 zero.length hz ?_
  intro B0 m1 x1 hx1 hm1 hB0 ho1
  have y0 : m1 x = some (.cells (cL l) false) := by rw [hm1 x (by omega)]; simp +contextual (disch := omega) [Nat.add_assoc, Int.add_assoc, if_pos, if_neg, -Int.not_lt, -Int.not_le, -Nat.not_lt, -Nat.not_le, -List.length_flatMap]
  have y1 : m1 (x + 1) = some (.cells [.i .i64 0, .ns] false) := by rw [hm1 (x + 1) (by omega)]; simp +contextual (disch := omega) [Nat.add_assoc, Int.add_assoc, if_pos, if_neg, -Int.not_lt, -Int.not_le, -Nat.not_lt, -Nat.not_le, -List.length_flatMap]
  have hb0 := hB0.stor
  have hO1 : ∀ y, y ≤ x → Own m y → Own m1 y := fun y hy h => ho1 y (by omega) ((h.set (l := x) (by simp only [ownO]; exact cL_over y l)).set (l := x + 1) (by simp [ownO, overL, V.over]))
  have hmx : ∀ j, j < x → m1 j = m j := fun j hj => by rw [hm1 j (by omega)]; simp +contextual (disch := omega) [Nat.add_assoc, Int.add_assoc, if_pos, if_neg, -Int.not_lt, -Int.not_le, -Nat.not_lt, -Nat.not_le, -List.length_flatMap]
  have hM1 : ∀ y, y ≤ x → Own m y → Own ((m1.set x1 (some (.cells [.i .i64 0, .ns] false))).set x1 (some (.cells [.i .i64 0, B0] false))) y := fun y hy h => by
    have o1 := hB0.over (y := y) (by omega)
    exact ((hO1 y hy h).set (by simp [ownO, overL, V.over])).set (by simp [ownO, overL, V.over, o1])
  have z0 : ((m1.set x1 (some (.cells [.i .i64 0, .ns] false))).set x1 (some (.cells [.i .i64 0, B0] false))) x = some (.cells (cL l) false) := by simp +contextual (disch := omega) [Nat.add_assoc, Int.add_assoc, if_pos, if_neg, -Int.not_lt, -Int.not_le, -Nat.not_lt, -Nat.not_le, -List.length_flatMap, y0]
  have z1 : ((m1.set x1 (some (.cells [.i .i64 0, .ns] false))).set x1 (some (.cells [.i .i64 0, B0] false))) (x + 1) = some (.cells [.i .i64 0, .ns] false) := by simp +contextual (disch := omega) [Nat.add_assoc, Int.add_assoc, if_pos, if_neg, -Int.not_lt, -Int.not_le, -Nat.not_lt, -Nat.not_le, -List.length_flatMap, y1]
  have zx : ∀ j, j < x → ((m1.set x1 (some (.cells [.i .i64 0, .ns] false))).set x1 (some (.cells [.i .i64 0, B0] false))) j = m j := fun j hj => by simp +contextual (disch := omega) [Nat.add_assoc, Int.add_assoc, if_pos, if_neg, -Int.not_lt, -Int.not_le, -Nat.not_lt, -Nat.not_le, -List.length_flatMap, hmx]
  rcases right_kind hr with hk | hk | hk | hk | hk | hk
  · have e1 : ofK l.kind l.n zero (l.kids.map fun k => ofS k zero) = plainF zero.length := by simp [ofK, hk]
    rw [e1] at hK
    simp +contextual (disch := omega) [Nat.add_assoc, Int.add_assoc, if_pos, if_neg, -Int.not_lt, -Int.not_le, -Nat.not_lt, -Nat.not_le, -List.length_flatMap, hb0.1, hb0.2.1, y0, y1, hk]
    refine hK B0 _ _ (by omega) (fun j hj => by rw [Sto.sne _ _ _ _ (by omega), zx j hj]) (hB0.up (by omega) (by omega) (fun j h1 h2 => by simp +contextual (disch := omega) [Nat.add_assoc, Int.add_assoc, if_pos, if_neg, -Int.not_lt, -Int.not_le, -Nat.not_lt, -Nat.not_le, -List.length_flatMap])) (fun y hy h => ?_)
    have o1 := hB0.over (y := y) (by omega)
    exact (hM1 y hy h).set (by simp [ownO, overL, V.over, o1])
  · rw [hk] at h2
    obtain ⟨k0, hks⟩ := kids1 (l := l) (by rw [h2]; simp [kidsS])
    have m0 : k0 ∈ l.kids := by rw [hks]; simp
    have e1 : ofK l.kind l.n zero (l.kids.map fun k => ofS k zero) = succF (ofS k0 zero) := by rw [hks]; simp [ofK, hk]
    rw [e1] at hK
    simp +contextual (disch := omega) [Nat.add_assoc, Int.add_assoc, if_pos, if_neg, -Int.not_lt, -Int.not_le, -Nat.not_lt, -Nat.not_le, -List.length_flatMap, hb0.1, hb0.2.1, y0, y1, hk, hks]
    generalize (m1.set x1 (some (.cells [.i .i64 0, .ns] false))).set x1 (some (.cells [.i .i64 0, B0] false)) = M1 at *
    rw [CallX_op (by rfl)]
    refine openg_w rfl rfl (.inl rfl) ?_
    rw [hfo]
    refine ih k0 m0 (ok.kid m0) zero (d - 1) hz (by omega) (h4 k0 m0) ?_
    intro B1 m2 x2 hx2 hm2 hB1 ho2
    simp +contextual (disch := omega) [Nat.add_assoc, Int.add_assoc, if_pos, if_neg, -Int.not_lt, -Int.not_le, -Nat.not_lt, -Nat.not_le, -List.length_flatMap]
    rw [CallX_op (by rfl)]
    refine openg_w rfl rfl (.inl rfl) ?_
    rw [hfs]
    have b0 := hkb k0 m0
    refine flat_succ.w (ofS k0 zero) B1 hB1 hx2 ⟨b0.2.1.1, by have := b0.2.1.2; omega⟩ (fun a ha => by have := b0.2.2 a ha; omega) (by rw [b0.1]; omega) ?_
    intro m3 x3 hx3 hm3 hB3 ho3
    have w1 : m3 (x + 1) = some (.cells [.i .i64 0, .ns] false) := by rw [hm3 _ (by omega), hm2 _ (by omega), z1]
    have hb3 := hB3.stor
    simp +contextual (disch := omega) [Nat.add_assoc, Int.add_assoc, if_pos, if_neg, -Int.not_lt, -Int.not_le, -Nat.not_lt, -Nat.not_le, -List.length_flatMap, w1, hb3.1, hb3.2.1]
    refine hK B1 _ _ (by omega) (fun j hj => by rw [Sto.sne _ _ _ _ (by omega), hm3 _ (by omega), hm2 _ (by omega), zx j hj]) (hB3.up (by omega) (by omega) (fun j h1 h2 => by simp +contextual (disch := omega) [Nat.add_assoc, Int.add_assoc, if_pos, if_neg, -Int.not_lt, -Int.not_le, -Nat.not_lt, -Nat.not_le, -List.length_flatMap])) (fun y hy h => ?_)
    have o1 := hB3.over (y := y) (by omega)
    exact (ho3 y (by omega) (ho2 y (by omega) (hM1 y hy h))).set (by simp [ownO, overL, V.over, o1])
  · rw [hk] at h2
    obtain ⟨k0, k1, hks⟩ := kids2 (l := l) (by rw [h2]; simp [kidsS])
    have m0 : k0 ∈ l.kids := by rw [hks]; simp
    have m1' : k1 ∈ l.kids := by rw [hks]; simp
    have e1 : ofK l.kind l.n zero (l.kids.map fun k => ofS k zero) = joinF (ofS k0 zero) (ofS k1 zero) := by rw [hks]; simp [ofK, hk]
    rw [e1] at hK
    simp +contextual (disch := omega) [Nat.add_assoc, Int.add_assoc, if_pos, if_neg, -Int.not_lt, -Int.not_le, -Nat.not_lt, -Nat.not_le, -List.length_flatMap, hb0.1, hb0.2.1, y0, y1, hk, hks]
    generalize (m1.set x1 (some (.cells [.i .i64 0, .ns] false))).set x1 (some (.cells [.i .i64 0, B0] false)) = M1 at *
    have b0 := hkb k0 m0
    have b1 := hkb k1 m1'
    rw [CallQ_op (by rfl)]
    refine openq_w rfl rfl rfl rfl (a := [.ag (cL k0), sV cB zero]) (by simp [freezeL]) ?_
    refine ih k0 m0 (ok.kid m0) zero (d - 1) hz (by omega) (h4 k0 m0) ?_
    intro B1 m2 x2 hx2 hm2 hB1 ho2
    have hO := ho2 _ (Nat.le_refl _) Own.nil
    refine ⟨by simp [V.over, overL, hB1.over (Nat.le_refl _)], fun j h1 _ => hO j h1, fun ws ids w1 w2 w3 => ?_⟩
    obtain ⟨M2, hM2⟩ : ∃ M2, M2 = M1.app ws := ⟨_, rfl⟩
    have v0 : M2 x = some (.cells (cL l) false) := by rw [hM2, w3, if_neg (by omega), z0]
    have v1 : M2 (x + 1) = some (.cells [.i .i64 0, .ns] false) := by rw [hM2, w3, if_neg (by omega), z1]
    have vx : ∀ j, j < x → M2 j = m j := fun j hj => by rw [hM2, w3, if_neg (by omega), zx j hj]
    have vb := fun j (h1 : x1 + 17 ≤ j) (h2 : j < x2) => (show M2 j = m2 j by rw [hM2, w3, if_pos ⟨h1, h2⟩])
    have vO : ∀ y, y ≤ x → Own m y → Own M2 y := fun y hy h j hj => by
      rw [hM2, w3]
      split
      · exact ho2 y (by omega) Own.nil j hj
      · exact hM1 y hy h j hj
    simp +contextual (disch := omega) [Nat.add_assoc, Int.add_assoc, if_pos, if_neg, -Int.not_lt, -Int.not_le, -Nat.not_lt, -Nat.not_le, -List.length_flatMap, hM2.symm, w2, v0, hks]
    rw [IfK_pos (show ∀ j, j ∈ ids → ¬ j = x from fun j hj => by have := w1 j hj; omega)]
    rw [CallX_op (by rfl)]
    refine openg_w rfl rfl (.inl rfl) ?_
    rw [hfo]
    refine ih k1 m1' (ok.kid m1') zero (d - 1) hz (by omega) (h4 k1 m1') ?_
    intro B2 m3 x3 hx3 hm3 hB2 ho3
    simp +contextual (disch := omega) [Nat.add_assoc, Int.add_assoc, if_pos, if_neg, -Int.not_lt, -Int.not_le, -Nat.not_lt, -Nat.not_le, -List.length_flatMap]
    rw [CallX_op (by rfl)]
    refine openg_w rfl rfl (.inl rfl) ?_
    rw [hfj]
    refine flat_join.w (lo := x1 + 17) (b := x3) (ofS k0 zero) (ofS k1 zero) B1 B2 (hB1.up (Nat.le_refl _) (by omega) (fun j h1 h2 => by rw [Sto.sne _ _ _ _ (by omega), hm3 j (by omega), vb j h1 h2])) (hB2.up (by omega) (by omega) (fun j h1 h2 => by rw [Sto.sne _ _ _ _ (by omega)])) (by omega) (by rw [b0.1, b1.1]) (by rw [b0.1]; omega) (by rw [Sto.seq]) (by omega) ?_
    intro D m4 x4 hx4 hm4 hD ho4
    have u1 : m4 (x + 1) = some (.cells [.i .i64 0, .ns] false) := by rw [hm4 _ (by omega), Sto.sne _ _ _ _ (by omega), hm3 _ (by omega), v1]
    have hbd4 := hD.stor
    simp +contextual (disch := omega) [Nat.add_assoc, Int.add_assoc, if_pos, if_neg, -Int.not_lt, -Int.not_le, -Nat.not_lt, -Nat.not_le, -List.length_flatMap, u1, hbd4.1, hbd4.2.1]
    refine hK D _ _ (by omega) (fun j hj => by rw [Sto.sne _ _ _ _ (by omega), hm4 _ (by omega), Sto.sne _ _ _ _ (by omega), hm3 _ (by omega), vx j hj]) (hD.up (by omega) (by omega) (fun j h1 h2 => by simp +contextual (disch := omega) [Nat.add_assoc, Int.add_assoc, if_pos, if_neg, -Int.not_lt, -Int.not_le, -Nat.not_lt, -Nat.not_le, -List.length_flatMap])) (fun y hy h => ?_)
    have o1 := hD.over (y := y) (by omega)
    have o2 := hB2.over (y := y) (by omega)
    exact (ho4 y (by omega) ((ho3 y (by omega) (vO y hy h)).set (by simp [ownO, overL, V.over, o2]))).set (by simp [ownO, overL, V.over, o1])
  · rw [hk] at h2
    obtain ⟨k0, k1, hks⟩ := kids2 (l := l) (by rw [h2]; simp [kidsS])
    have m0 : k0 ∈ l.kids := by rw [hks]; simp
    have m1' : k1 ∈ l.kids := by rw [hks]; simp
    have e1 : ofK l.kind l.n zero (l.kids.map fun k => ofS k zero) = if (ofS k1 zero).cst = 0 ∧ topF (ofS k1 zero) = -1 then ofS k1 zero else joinF (ofS k0 zero) (ofS k1 zero) := by rw [hks]; simp [ofK, hk]
    rw [e1] at hK
    simp +contextual (disch := omega) [Nat.add_assoc, Int.add_assoc, if_pos, if_neg, -Int.not_lt, -Int.not_le, -Nat.not_lt, -Nat.not_le, -List.length_flatMap, hb0.1, hb0.2.1, y0, y1, hk, hks]
    generalize (m1.set x1 (some (.cells [.i .i64 0, .ns] false))).set x1 (some (.cells [.i .i64 0, B0] false)) = N1 at *
    have b0 := hkb k0 m0
    have b1 := hkb k1 m1'
    rw [CallX_op (by rfl)]
    refine openg_w rfl rfl (.inl rfl) ?_
    rw [hfo]
    refine ih k1 m1' (ok.kid m1') zero (d - 1) hz (by omega) (h4 k1 m1') ?_
    intro E n2 w2x hw2 hn2 hE hoE
    have hst := hE.stor
    have t0 : n2 x = some (.cells (cL l) false) := by rw [hn2 _ (by omega), z0]
    have t1 : n2 (x + 1) = some (.cells [.i .i64 0, .ns] false) := by rw [hn2 _ (by omega), z1]
    have hT := flat_Top.a (ofS k1 zero) (by rw [b1.1]; omega)
    have hEM := hE.up (m' := (n2.set w2x (some (.cells [.i .i64 0, .ns] false))).set w2x (some (.cells [.i .i64 (ofS k1 zero).cst, E] false))) (Nat.le_refl _) (Nat.le_refl _) (fun j h1 h2 => by simp +contextual (disch := omega) [Nat.add_assoc, Int.add_assoc, if_pos, if_neg, -Int.not_lt, -Int.not_le, -Nat.not_lt, -Nat.not_le, -List.length_flatMap])
    have hzE := hEM.bf.fz24
    have hcF : V.ag [.i .i64 (ofS k1 zero).cst, sV cI (ofS k1 zero).offs] = .ag (cF (ofS k1 zero)) := rfl
    by_cases c1 : (ofS k1 zero).cst = 0
    · rw [c1] at hzE hcF
      by_cases c2 : topF (ofS k1 zero) = -1
      · rw [if_pos ⟨c1, c2⟩] at hK
        rw [c1] at hK
        simp +contextual (disch := omega) [Nat.add_assoc, Int.add_assoc, if_pos, if_neg, -Int.not_lt, -Int.not_le, -Nat.not_lt, -Nat.not_le, -List.length_flatMap, hst.1, hst.2.1, hzE, hcF, ansK hT, c1, c2, t1]
        refine hK E _ _ (by omega) (fun j hj => by rw [Sto.sne _ _ _ _ (by omega), Sto.sne _ _ _ _ (by omega), Sto.sne _ _ _ _ (by omega), hn2 j (by omega), zx j hj]) (hE.up (by omega) (by omega) (fun j h1 h2 => by simp +contextual (disch := omega) [Nat.add_assoc, Int.add_assoc, if_pos, if_neg, -Int.not_lt, -Int.not_le, -Nat.not_lt, -Nat.not_le, -List.length_flatMap])) (fun y hy h => ?_)
        have o1 := hE.over (y := y) (by omega)
        exact (((hoE y (by omega) (hM1 y hy h)).set (by simp [ownO, overL, V.over])).set (by simp [ownO, overL, V.over, o1])).set (by simp [ownO, overL, V.over, o1])
      · rw [if_neg (by simp [c2])] at hK
        simp +contextual (disch := omega) [Nat.add_assoc, Int.add_assoc, if_pos, if_neg, -Int.not_lt, -Int.not_le, -Nat.not_lt, -Nat.not_le, -List.length_flatMap, hst.1, hst.2.1, hzE, hcF, ansK hT, c1, c2, t0, hks]
        have r0 : ((n2.set w2x (some (.cells [.i .i64 0, .ns] false))).set w2x (some (.cells [.i .i64 0, E] false))) x = some (.cells (cL l) false) := by simp +contextual (disch := omega) [Nat.add_assoc, Int.add_assoc, if_pos, if_neg, -Int.not_lt, -Int.not_le, -Nat.not_lt, -Nat.not_le, -List.length_flatMap, t0]
        have r1 : ((n2.set w2x (some (.cells [.i .i64 0, .ns] false))).set w2x (some (.cells [.i .i64 0, E] false))) (x + 1) = some (.cells [.i .i64 0, .ns] false) := by simp +contextual (disch := omega) [Nat.add_assoc, Int.add_assoc, if_pos, if_neg, -Int.not_lt, -Int.not_le, -Nat.not_lt, -Nat.not_le, -List.length_flatMap, t1]
        have rx : ∀ j, j < x → ((n2.set w2x (some (.cells [.i .i64 0, .ns] false))).set w2x (some (.cells [.i .i64 0, E] false))) j = m j := fun j hj => by rw [Sto.sne _ _ _ _ (by omega), Sto.sne _ _ _ _ (by omega), hn2 j (by omega), zx j hj]
        have rO : ∀ y, y ≤ x → Own m y → Own ((n2.set w2x (some (.cells [.i .i64 0, .ns] false))).set w2x (some (.cells [.i .i64 0, E] false))) y := fun y hy h => by
          have o1 := hE.over (y := y) (by omega)
          exact ((hoE y (by omega) (hM1 y hy h)).set (by simp [ownO, overL, V.over])).set (by simp [ownO, overL, V.over, o1])
        clear hzE hEM z0 z1 zx hM1
        generalize (n2.set w2x (some (.cells [.i .i64 0, .ns] false))).set w2x (some (.cells [.i .i64 0, E] false)) = M1 at *
        rw [CallQ_op (by rfl)]
        refine openq_w rfl rfl rfl rfl (a := [.ag (cL k0), sV cB zero]) (by simp [freezeL]) ?_
        refine ih k0 m0 (ok.kid m0) zero (d - 1) hz (by omega) (h4 k0 m0) ?_
        intro B1 m2 x2 hx2 hm2 hB1 ho2
        have hO := ho2 _ (Nat.le_refl _) Own.nil
        refine ⟨by simp [V.over, overL, hB1.over (Nat.le_refl _)], fun j h1 _ => hO j h1, fun ws ids w1 w2 w3 => ?_⟩
        obtain ⟨M2, hM2⟩ : ∃ M2, M2 = M1.app ws := ⟨_, rfl⟩
        have v0 : M2 x = some (.cells (cL l) false) := by rw [hM2, w3, if_neg (by omega), r0]
        have v1 : M2 (x + 1) = some (.cells [.i .i64 0, .ns] false) := by rw [hM2, w3, if_neg (by omega), r1]
        have vx : ∀ j, j < x → M2 j = m j := fun j hj => by rw [hM2, w3, if_neg (by omega), rx j hj]
        have vb := fun j (h1 : w2x + 14 ≤ j) (h2 : j < x2) => (show M2 j = m2 j by rw [hM2, w3, if_pos ⟨h1, h2⟩])
        have vO : ∀ y, y ≤ x → Own m y → Own M2 y := fun y hy h j hj => by
          rw [hM2, w3]
          split
          · exact ho2 y (by omega) Own.nil j hj
          · exact rO y hy h j hj
        simp +contextual (disch := omega) [Nat.add_assoc, Int.add_assoc, if_pos, if_neg, -Int.not_lt, -Int.not_le, -Nat.not_lt, -Nat.not_le, -List.length_flatMap, hM2.symm, w2, v0, hks]
        rw [IfK_pos (show ∀ j, j ∈ ids → ¬ j = x from fun j hj => by have := w1 j hj; omega)]
        rw [CallX_op (by rfl)]
        refine openg_w rfl rfl (.inl rfl) ?_
        rw [hfo]
        refine ih k1 m1' (ok.kid m1') zero (d - 1) hz (by omega) (h4 k1 m1') ?_
        intro B2 m3 x3 hx3 hm3 hB2 ho3
        simp +contextual (disch := omega) [Nat.add_assoc, Int.add_assoc, if_pos, if_neg, -Int.not_lt, -Int.not_le, -Nat.not_lt, -Nat.not_le, -List.length_flatMap]
        rw [CallX_op (by rfl)]
        refine openg_w rfl rfl (.inl rfl) ?_
        rw [hfj]
        refine flat_join.w (lo := w2x + 14) (b := x3) (ofS k0 zero) (ofS k1 zero) B1 B2 (hB1.up (Nat.le_refl _) (by omega) (fun j h1 h2 => by rw [Sto.sne _ _ _ _ (by omega), hm3 j (by omega), vb j h1 h2])) (hB2.up (by omega) (by omega) (fun j h1 h2 => by rw [Sto.sne _ _ _ _ (by omega)])) (by omega) (by rw [b0.1, b1.1]) (by rw [b0.1]; omega) (by rw [Sto.seq]) (by omega) ?_
        intro D m4 x4 hx4 hm4 hD ho4
        have u1 : m4 (x + 1) = some (.cells [.i .i64 0, .ns] false) := by rw [hm4 _ (by omega), Sto.sne _ _ _ _ (by omega), hm3 _ (by omega), v1]
        have hbd4 := hD.stor
        simp +contextual (disch := omega) [Nat.add_assoc, Int.add_assoc, if_pos, if_neg, -Int.not_lt, -Int.not_le, -Nat.not_lt, -Nat.not_le, -List.length_flatMap, u1, hbd4.1, hbd4.2.1]
        refine hK D _ _ (by omega) (fun j hj => by rw [Sto.sne _ _ _ _ (by omega), hm4 _ (by omega), Sto.sne _ _ _ _ (by omega), hm3 _ (by omega), vx j hj]) (hD.up (by omega) (by omega) (fun j h1 h2 => by simp +contextual (disch := omega) [Nat.add_assoc, Int.add_assoc, if_pos, if_neg, -Int.not_lt, -Int.not_le, -Nat.not_lt, -Nat.not_le, -List.length_flatMap])) (fun y hy h => ?_)
        have o1 := hD.over (y := y) (by omega)
        have o2 := hB2.over (y := y) (by omega)
        exact (ho4 y (by omega) ((ho3 y (by omega) (vO y hy h)).set (by simp [ownO, overL, V.over, o2]))).set (by simp [ownO, overL, V.over, o1])
    · rw [if_neg (by simp [c1])] at hK
      simp +contextual (disch := omega) [Nat.add_assoc, Int.add_assoc, if_pos, if_neg, -Int.not_lt, -Int.not_le, -Nat.not_lt, -Nat.not_le, -List.length_flatMap, hst.1, hst.2.1, c1, t0, hks]
      have r0 : ((n2.set w2x (some (.cells [.i .i64 0, .ns] false))).set w2x (some (.cells [.i .i64 (ofS k1 zero).cst, E] false))) x = some (.cells (cL l) false) := by simp +contextual (disch := omega) [Nat.add_assoc, Int.add_assoc, if_pos, if_neg, -Int.not_lt, -Int.not_le, -Nat.not_lt, -Nat.not_le, -List.length_flatMap, t0]
      have r1 : ((n2.set w2x (some (.cells [.i .i64 0, .ns] false))).set w2x (some (.cells [.i .i64 (ofS k1 zero).cst, E] false))) (x + 1) = some (.cells [.i .i64 0, .ns] false) := by simp +contextual (disch := omega) [Nat.add_assoc, Int.add_assoc, if_pos, if_neg, -Int.not_lt, -Int.not_le, -Nat.not_lt, -Nat.not_le, -List.length_flatMap, t1]
      have rx : ∀ j, j < x → ((n2.set w2x (some (.cells [.i .i64 0, .ns] false))).set w2x (some (.cells [.i .i64 (ofS k1 zero).cst, E] false))) j = m j := fun j hj => by rw [Sto.sne _ _ _ _ (by omega), Sto.sne _ _ _ _ (by omega), hn2 j (by omega), zx j hj]
      have rO : ∀ y, y ≤ x → Own m y → Own ((n2.set w2x (some (.cells [.i .i64 0, .ns] false))).set w2x (some (.cells [.i .i64 (ofS k1 zero).cst, E] false))) y := fun y hy h => by
        have o1 := hE.over (y := y) (by omega)
        exact ((hoE y (by omega) (hM1 y hy h)).set (by simp [ownO, overL, V.over])).set (by simp [ownO, overL, V.over, o1])
      clear hzE hEM z0 z1 zx hM1
      generalize (n2.set w2x (some (.cells [.i .i64 0, .ns] false))).set w2x (some (.cells [.i .i64 (ofS k1 zero).cst, E] false)) = M1 at *
      rw [CallQ_op (by rfl)]
      refine openq_w rfl rfl rfl rfl (a := [.ag (cL k0), sV cB zero]) (by simp [freezeL]) ?_
      refine ih k0 m0 (ok.kid m0) zero (d - 1) hz (by omega) (h4 k0 m0) ?_
      intro B1 m2 x2 hx2 hm2 hB1 ho2
      have hO := ho2 _ (Nat.le_refl _) Own.nil
      refine ⟨by simp [V.over, overL, hB1.over (Nat.le_refl _)], fun j h1 _ => hO j h1, fun ws ids w1 w2 w3 => ?_⟩
      obtain ⟨M2, hM2⟩ : ∃ M2, M2 = M1.app ws := ⟨_, rfl⟩
      have v0 : M2 x = some (.cells (cL l) false) := by rw [hM2, w3, if_neg (by omega), r0]
      have v1 : M2 (x + 1) = some (.cells [.i .i64 0, .ns] false) := by rw [hM2, w3, if_neg (by omega), r1]
      have vx : ∀ j, j < x → M2 j = m j := fun j hj => by rw [hM2, w3, if_neg (by omega), rx j hj]
      have vb := fun j (h1 : w2x + 12 ≤ j) (h2 : j < x2) => (show M2 j = m2 j by rw [hM2, w3, if_pos ⟨h1, h2⟩])
      have vO : ∀ y, y ≤ x → Own m y → Own M2 y := fun y hy h j hj => by
        rw [hM2, w3]
        split
        · exact ho2 y (by omega) Own.nil j hj
        · exact rO y hy h j hj
      simp +contextual (disch := omega) [Nat.add_assoc, Int.add_assoc, if_pos, if_neg, -Int.not_lt, -Int.not_le, -Nat.not_lt, -Nat.not_le, -List.length_flatMap, hM2.symm, w2, v0, hks]
      rw [IfK_pos (show ∀ j, j ∈ ids → ¬ j = x from fun j hj => by have := w1 j hj; omega)]
      rw [CallX_op (by rfl)]
      refine openg_w rfl rfl (.inl rfl) ?_
      rw [hfo]
      refine ih k1 m1' (ok.kid m1') zero (d - 1) hz (by omega) (h4 k1 m1') ?_
      intro B2 m3 x3 hx3 hm3 hB2 ho3
      simp +contextual (disch := omega) [Nat.add_assoc, Int.add_assoc, if_pos, if_neg, -Int.not_lt, -Int.not_le, -Nat.not_lt, -Nat.not_le, -List.length_flatMap]
      rw [CallX_op (by rfl)]
      refine openg_w rfl rfl (.inl rfl) ?_
      rw [hfj]
      refine flat_join.w (lo := w2x + 12) (b := x3) (ofS k0 zero) (ofS k1 zero) B1 B2 (hB1.up (Nat.le_refl _) (by omega) (fun j h1 h2 => by rw [Sto.sne _ _ _ _ (by omega), hm3 j (by omega), vb j h1 h2])) (hB2.up (by omega) (by omega) (fun j h1 h2 => by rw [Sto.sne _ _ _ _ (by omega)])) (by omega) (by rw [b0.1, b1.1]) (by rw [b0.1]; omega) (by rw [Sto.seq]) (by omega) ?_
      intro D m4 x4 hx4 hm4 hD ho4
      have u1 : m4 (x + 1) = some (.cells [.i .i64 0, .ns] false) := by rw [hm4 _ (by omega), Sto.sne _ _ _ _ (by omega), hm3 _ (by omega), v1]
      have hbd4 := hD.stor
      simp +contextual (disch := omega) [Nat.add_assoc, Int.add_assoc, if_pos, if_neg, -Int.not_lt, -Int.not_le, -Nat.not_lt, -Nat.not_le, -List.length_flatMap, u1, hbd4.1, hbd4.2.1]
      refine hK D _ _ (by omega) (fun j hj => by rw [Sto.sne _ _ _ _ (by omega), hm4 _ (by omega), Sto.sne _ _ _ _ (by omega), hm3 _ (by omega), vx j hj]) (hD.up (by omega) (by omega) (fun j h1 h2 => by simp +contextual (disch := omega) [Nat.add_assoc, Int.add_assoc, if_pos, if_neg, -Int.not_lt, -Int.not_le, -Nat.not_lt, -Nat.not_le, -List.length_flatMap])) (fun y hy h => ?_)
      have o1 := hD.over (y := y) (by omega)
      have o2 := hB2.over (y := y) (by omega)
      exact (ho4 y (by omega) ((ho3 y (by omega) (vO y hy h)).set (by simp [ownO, overL, V.over, o2]))).set (by simp [ownO, overL, V.over, o1])
  · have hn : 0 ≤ l.n ∧ l.n < zero.length := by simp [namedS, hk] at h3; exact h3
    obtain ⟨q, hq⟩ : ∃ q : Nat, l.n = q := ⟨l.n.toNat, by omega⟩
    have hql : q < zero.length := by omega
    have hgd : zero.getD q true = zero[q] := by simp [hql]
    cases hzq : zero[q] with
    | true =>
      have e1 : ofK l.kind l.n zero (l.kids.map fun k => ofS k zero) = plainF zero.length := by simp [ofK, hk, hq, hgd, hzq, hql]
      rw [e1] at hK
      simp +contextual (disch := omega) [Nat.add_assoc, Int.add_assoc, if_pos, if_neg, -Int.not_lt, -Int.not_le, -Nat.not_lt, -Nat.not_le, -List.length_flatMap, hb0.1, hb0.2.1, y0, y1, hk, hq, hql, hzq]
      refine hK B0 _ _ (by omega) (fun j hj => by rw [Sto.sne _ _ _ _ (by omega), zx j hj]) (hB0.up (by omega) (by omega) (fun j h1 h2 => by simp +contextual (disch := omega) [Nat.add_assoc, Int.add_assoc, if_pos, if_neg, -Int.not_lt, -Int.not_le, -Nat.not_lt, -Nat.not_le, -List.length_flatMap])) (fun y hy h => ?_)
      have o1 := hB0.over (y := y) (by omega)
      exact (hM1 y hy h).set (by simp [ownO, overL, V.over, o1])
    | false =>
      have e1 : ofK l.kind l.n zero (l.kids.map fun k => ofS k zero) = ⟨0, (List.replicate zero.length (-1)).set q 0⟩ := by simp [ofK, hk, hq, hgd, hzq, hql]
      rw [e1] at hK
      have hlr : (List.replicate zero.length (-1 : Int)).length = zero.length := by simp
      rcases hB0 with ⟨_, h⟩ | ⟨a, rfl, g1, g2, g3⟩
      · have := congrArg List.length h; simp at this; rw [this] at hql; simp at hql
      · obtain ⟨R, hR⟩ : ∃ R, R = List.replicate zero.length (-1 : Int) := ⟨_, rfl⟩
        rw [← hR] at g1 hlr hK hb0 z0 z1 zx hM1 ⊢
        have hcl : (R.flatMap cI).length = zero.length := by rw [flatI_len, hlr]
        rw [hlr] at hb0 z0 z1 zx hM1 ⊢
        simp +contextual (disch := omega) [Nat.add_assoc, Int.add_assoc, if_pos, if_neg, -Int.not_lt, -Int.not_le, -Nat.not_lt, -Nat.not_le, -List.length_flatMap, hb0.1, hb0.2.1, y0, y1, hk, hq, hql, hzq, g1, hcl]
        rw [flatI_set (by omega)]
        refine hK (.ms a 0 zero.length 1) _ _ (by omega) (fun j hj => by rw [Sto.sne _ _ _ _ (by omega), Sto.sne _ _ _ _ (by omega), zx j hj]) (.inr ⟨a, by simp [hlr], by rw [Sto.sne _ _ _ _ (by omega), Sto.seq], by omega, by omega⟩) (fun y hy h => ?_)
        have hya : y ≤ a := by omega
        exact ((hM1 y hy h).set (l := a) (o := some (.cells ((R.set q 0).flatMap cI) false)) (over_cI y _)).set (by simp [ownO, overL, V.over, hya])
  · simp [namedS, hk] at h3; omega
end Pi


set_option linter.unusedSimpArgs false
set_option linter.unusedVariables false
namespace Pi
def flattenF (l : L) (zero : List Bool) : F := if topF (ofS l zero) ≠ -1 ∧ (ofS l zero).cst ≤ topF (ofS l zero) + 1 then ⟨0, (ofS l zero).offs⟩ else ofS l zero
def flattenV (l : L) (zero : List Bool) : V := if RightS l zero.length 0 = true then .tu [.ag (cF (flattenF l zero)), .i .i64 0] else .tu [.ag (cF ⟨0, []⟩), .i .i64 1]
theorem RightS_ok {l : L} {p q : Nat} (h : RightS l p q = true) : p ≤ 5 ∧ rightS l p q 12 = true := by
  unfold RightS at h
  split at h
  · cases h
  · simp only [Bool.and_eq_true] at h
    exact ⟨by omega, h.2⟩
theorem flat_Flatten.a (l : L) (ok : l.Ok) (zero : List Bool) (hz : zero.length ≤ 1000000) : Ans ctx flat_Flatten.n [.ag (cL l), sV cB zero] (flattenV l zero) := by
  refine ans flat_Flatten.f ?_
  have hR := level_Right.a l ok zero.length 0
  unfold flattenV
  cases h1 : RightS l zero.length 0 with
  | false =>
    rw [h1] at hR
    simp +contextual (disch := omega) [Nat.add_assoc, Int.add_assoc, if_pos, if_neg, -Int.not_lt, -Int.not_le, -Nat.not_lt, -Nat.not_le, -List.length_flatMap, flat_Flatten.c, ansK hR]
    rfl
  | true =>
    rw [h1] at hR
    obtain ⟨hp, hr⟩ := RightS_ok (q := 0) h1
    have hbd := ofS_bd l zero 12 hr
    simp +contextual (disch := omega) [Nat.add_assoc, Int.add_assoc, if_pos, if_neg, -Int.not_lt, -Int.not_le, -Nat.not_lt, -Nat.not_le, -List.length_flatMap, flat_Flatten.c, ansK hR]
    rw [CallX_op (by rfl)]
    refine openg_w rfl rfl (.inl rfl) ?_
    have hfo : ctx.frz flat_of.n = false := rfl
    rw [hfo]
    refine flat_of.w l ok zero 12 hp (by omega) hr ?_
    intro B m1 x1 hx1 hm1 hB ho
    have y1 : m1 1 = some (.cells [.i .i64 0, .ns] false) := by rw [hm1 1 (by omega)]; simp +contextual (disch := omega) [Nat.add_assoc, Int.add_assoc, if_pos, if_neg, -Int.not_lt, -Int.not_le, -Nat.not_lt, -Nat.not_le, -List.length_flatMap]
    have hst := hB.stor
    have hT := flat_Top.a (ofS l zero) (by rw [hbd.1]; omega)
    have hbt : -1 ≤ topF (ofS l zero) ∧ topF (ofS l zero) ≤ 11 := ⟨fmax_ge _ _, fmax_le _ _ _ (by omega) (fun a ha => (hbd.2.2 a ha).2)⟩
    have hcF : V.ag [.i .i64 (ofS l zero).cst, sV cI (ofS l zero).offs] = .ag (cF (ofS l zero)) := rfl
    have hEM := (hB.up (m' := (m1.set x1 (some (.cells [.i .i64 0, .ns] false))).set x1 (some (.cells [.i .i64 (ofS l zero).cst, B] false))) (Nat.le_refl _) (Nat.le_refl _) (fun j h1 h2 => by simp +contextual (disch := omega) [Nat.add_assoc, Int.add_assoc, if_pos, if_neg, -Int.not_lt, -Int.not_le, -Nat.not_lt, -Nat.not_le, -List.length_flatMap])).bf.fz24
    have hBz : ∀ M' : Sto, (∀ j, 6 ≤ j → j < x1 → M' j = m1 j) → frzW (der M' 24) B = some (sV cI (ofS l zero).offs, refOf B) := fun M' h => (hB.up (Nat.le_refl _) (Nat.le_refl _) (fun j h1 h2 => h j (by omega) h2)).bf.fz24
    by_cases c1 : topF (ofS l zero) = -1
    · have e1 : flattenF l zero = ofS l zero := by simp [flattenF, c1]
      simp +contextual (disch := omega) [Nat.add_assoc, Int.add_assoc, if_pos, if_neg, -Int.not_lt, -Int.not_le, -Nat.not_lt, -Nat.not_le, -List.length_flatMap, hst.1, hst.2.1, hEM, hcF, ansK hT, c1, y1, e1]
      rw [hBz _ (fun j h1 h2 => by simp +contextual (disch := omega) [Nat.add_assoc, Int.add_assoc, if_pos, if_neg, -Int.not_lt, -Int.not_le, -Nat.not_lt, -Nat.not_le, -List.length_flatMap])]
      simp +contextual (disch := omega) [Nat.add_assoc, Int.add_assoc, if_pos, if_neg, -Int.not_lt, -Int.not_le, -Nat.not_lt, -Nat.not_le, -List.length_flatMap, cF]
    · by_cases c2 : (ofS l zero).cst ≤ topF (ofS l zero) + 1
      · have e1 : flattenF l zero = ⟨0, (ofS l zero).offs⟩ := by simp [flattenF, c1, c2]
        simp +contextual (disch := omega) [Nat.add_assoc, Int.add_assoc, if_pos, if_neg, -Int.not_lt, -Int.not_le, -Nat.not_lt, -Nat.not_le, -List.length_flatMap, hst.1, hst.2.1, hEM, hcF, ansK hT, c1, c2, y1, e1]
        rw [hBz _ (fun j h1 h2 => by simp +contextual (disch := omega) [Nat.add_assoc, Int.add_assoc, if_pos, if_neg, -Int.not_lt, -Int.not_le, -Nat.not_lt, -Nat.not_le, -List.length_flatMap])]
        simp +contextual (disch := omega) [Nat.add_assoc, Int.add_assoc, if_pos, if_neg, -Int.not_lt, -Int.not_le, -Nat.not_lt, -Nat.not_le, -List.length_flatMap, cF]
      · have e1 : flattenF l zero = ofS l zero := by simp [flattenF, c2]
        simp +contextual (disch := omega) [Nat.add_assoc, Int.add_assoc, if_pos, if_neg, -Int.not_lt, -Int.not_le, -Nat.not_lt, -Nat.not_le, -List.length_flatMap, hst.1, hst.2.1, hEM, hcF, ansK hT, c1, c2, y1, e1]
        rw [hBz _ (fun j h1 h2 => by simp +contextual (disch := omega) [Nat.add_assoc, Int.add_assoc, if_pos, if_neg, -Int.not_lt, -Int.not_le, -Nat.not_lt, -Nat.not_le, -List.length_flatMap])]
        simp +contextual (disch := omega) [Nat.add_assoc, Int.add_assoc, if_pos, if_neg, -Int.not_lt, -Int.not_le, -Nat.not_lt, -Nat.not_le, -List.length_flatMap, cF]
theorem Ex.ap {m m' : Sto} {B : V} {l : List Int} (l' : List Int) {lo x slot n : Nat} {K : V → Ws → Prop} {xs : List V} (hB : Ex m B l lo x) (hm : ∀ j, lo ≤ j → j < x → m' j = m j) (hx : x ≤ slot) (hlo : lo ≤ x) (hxs : xs = l'.flatMap cI) (hn : n = l'.length) (h0 : l'.length ≠ 0) (hl : l.length + l'.length ≤ 2147483648)
    (hK : ∀ B' ws m2, m'.app ws = m2 → Ex m2 B' (l ++ l') lo (slot + 1) → (∀ j, j < lo → m2 j = m' j) → (∀ j, x ≤ j → j < slot → m2 j = m' j) → K B' ws) : opK (apV m' 1 B xs n slot) K := by
  subst hn hxs
  have hf := flatI_len
  rcases hB with ⟨rfl, rfl⟩ | ⟨a, rfl, h1, h2, h3⟩
  · have hB : l'.length ≤ BIG := by unfold BIG; simp at hl; omega
    rw [apV_ns, if_neg h0, if_pos hB]
    refine hK _ _ _ rfl (.inr ⟨slot, by simp, by rw [sapp_cons, sapp_nil, Sto.seq]; rfl, by omega, by omega⟩) (fun j hj => ?_) (fun j h1 h2 => ?_)
    · rw [sapp_cons, sapp_nil, Sto.sne _ _ _ _ (by simp only; omega)]
    · rw [sapp_cons, sapp_nil, Sto.sne _ _ _ _ (by simp only; omega)]
  · have hB : l.length + l'.length ≤ BIG := by unfold BIG; omega
    have ha : m' a = some (.cells (l.flatMap cI) false) := by rw [hm a h2 h3, h1]
    rw [apV_ms, if_neg h0, ha, apO_cells, if_pos ⟨rfl, by rw [hf, Nat.mul_one]; exact Nat.le_refl _, hB⟩, List.take_of_length_le (by rw [hf, Nat.mul_one]; exact Nat.le_refl _)]
    have far : ∀ j, j ≠ a → j ≠ slot → (m'.app [(a, none), (slot, some (.cells (l.flatMap cI ++ l'.flatMap cI) false))]) j = m' j := by
      intro j q1 q2
      rw [sapp_cons, sapp_cons, sapp_nil, Sto.sne _ _ _ _ q2, Sto.sne _ _ _ _ q1]
    exact hK _ _ _ rfl (.inr ⟨slot, by simp, by rw [sapp_cons, sapp_cons, sapp_nil, Sto.seq, List.flatMap_append], by omega, by omega⟩) (fun j hj => far j (by omega) (by omega)) (fun j h1 h2 => far j (by omega) (by omega))
theorem ref06_none.w {m0 : Sto} {x0 : Nat} {K : CR → Sto → Nat → Prop} (c : Int) (p : Nat) (hp : p ≤ 1000)
    (hK : ∀ B m' x', x0 ≤ x' → (∀ j, j < x0 → m' j = m0 j) → Ex m' B (List.replicate p (-1)) x0 x' → K (.ret (.ag [.i .i64 c, B])) m' x') :
    w ctx (envOf [.i .i64 c, .i .i64 p]) m0 x0 [] none none (RetG ctx ref06_none.c.rs K) ref06_none.c.code := by
  simp +contextual (disch := omega) [Nat.add_assoc, Int.add_assoc, if_pos, if_neg, -Int.not_lt, -Int.not_le, -Nat.not_lt, -Nat.not_le, -List.length_flatMap, ref06_none.c]
  refine for_w (fun i e m x => ∃ B, e 1 = .i .i64 p ∧ e 4 = .p x0 0 ∧ e 5 = .p (x0 + 3) 0 ∧ e 6 = .i .i64 i ∧ x0 + 4 ≤ x ∧ m x0 = some (.cells [.i .i64 0, .ns] false) ∧ m (x0 + 3) = some (.cells [.i .i64 c, B] false) ∧ Ex m B (List.replicate i (-1)) (x0 + 4) x ∧ (∀ j, j < x0 → m j = m0 j)) p ?_ ?_ ?_
  · refine ⟨.ns, ?_⟩
    simp +contextual (disch := omega) [Nat.add_assoc, Int.add_assoc, if_pos, if_neg, -Int.not_lt, -Int.not_le, -Nat.not_lt, -Nat.not_le, -List.length_flatMap]
    exact .inl ⟨rfl, rfl⟩
  · rintro i e m x hi ⟨B, g1, g4, g5, g6, gx, y0, y1, gB, gm⟩
    simp +contextual (disch := omega) [Nat.add_assoc, Int.add_assoc, if_pos, if_neg, -Int.not_lt, -Int.not_le, -Nat.not_lt, -Nat.not_le, -List.length_flatMap, ref06_none.b1, g1, g4, g5, g6, y0, y1, hi, -apV_ns]
    refine gB.ap [-1] (fun j h1 h2 => by simp +contextual (disch := omega) [Nat.add_assoc, Int.add_assoc, if_pos, if_neg, -Int.not_lt, -Int.not_le, -Nat.not_lt, -Nat.not_le, -List.length_flatMap]) (by omega) (by omega) rfl rfl (by simp) (by simp; omega) ?_
    intro B' ws m2 z0 z1 z2 z3
    have q0 : m2 x0 = some (.cells [.i .i64 0, .ns] false) := by rw [z2 x0 (by omega)]; simp +contextual (disch := omega) [Nat.add_assoc, Int.add_assoc, if_pos, if_neg, -Int.not_lt, -Int.not_le, -Nat.not_lt, -Nat.not_le, -List.length_flatMap, y0]
    have q1 : m2 (x0 + 3) = some (.cells [.i .i64 c, B] false) := by rw [z2 (x0 + 3) (by omega)]; simp +contextual (disch := omega) [Nat.add_assoc, Int.add_assoc, if_pos, if_neg, -Int.not_lt, -Int.not_le, -Nat.not_lt, -Nat.not_le, -List.length_flatMap, y1]
    have qm : ∀ j, j < x0 → m2 j = m0 j := fun j hj => by rw [z2 j (by omega)]; simp +contextual (disch := omega) [Nat.add_assoc, Int.add_assoc, if_pos, if_neg, -Int.not_lt, -Int.not_le, -Nat.not_lt, -Nat.not_le, -List.length_flatMap, gm]
    have hst := z1.stor
    rw [← List.replicate_succ'] at z1
    simp +contextual (disch := omega) [Nat.add_assoc, Int.add_assoc, if_pos, if_neg, -Int.not_lt, -Int.not_le, -Nat.not_lt, -Nat.not_le, -List.length_flatMap, z0, g1, g4, g5, g6, q0, q1, hst.1, hst.2.1]
    exact ⟨by omega, z1.up (by omega) (by omega) (fun j h1 h2 => by simp +contextual (disch := omega) [Nat.add_assoc, Int.add_assoc, if_pos, if_neg, -Int.not_lt, -Int.not_le, -Nat.not_lt, -Nat.not_le, -List.length_flatMap]), qm⟩
  · rintro e m x ⟨B, g1, g4, g5, g6, gx, y0, y1, gB, gm⟩
    have hst := gB.stor
    simp +contextual (disch := omega) [Nat.add_assoc, Int.add_assoc, if_pos, if_neg, -Int.not_lt, -Int.not_le, -Nat.not_lt, -Nat.not_le, -List.length_flatMap, ref06_none.b1, g1, g4, g5, g6, y0, y1, hst.1, hst.2.1]
    exact hK B _ _ (by omega) (fun j hj => by rw [Sto.sne _ _ _ _ (by omega), gm j hj]) (gB.up (by omega) (by omega) (fun j h1 h2 => by simp +contextual (disch := omega) [Nat.add_assoc, Int.add_assoc, if_pos, if_neg, -Int.not_lt, -Int.not_le, -Nat.not_lt, -Nat.not_le, -List.length_flatMap]))
def noughtF (f : F) : Bool := f.offs.all (fun a => decide (a < 0)) && decide (f.cst = 0)
theorem nought_iff {p : Nat} {d : Int} {f : F} (h : Bd p d f) : noughtF f = true ↔ f.cst = 0 ∧ topF f = -1 := by
  unfold noughtF
  simp only [Bool.and_eq_true, List.all_eq_true, decide_eq_true_eq]
  constructor
  · rintro ⟨h1, h2⟩
    refine ⟨h2, ?_⟩
    rcases fmax_at f.offs (-1) with h3 | h3
    · exact h3
    · have := h1 _ h3
      have := h.2.2 _ h3
      unfold topF
      omega
  · rintro ⟨h1, h2⟩
    refine ⟨fun a ha => ?_, h1⟩
    have := fmax_mem f.offs (-1) a ha
    unfold topF at h2
    omega
theorem ref06_nought.a (f : F) (hl : f.offs.length ≤ 1000000) : Ans ctx ref06_nought.n [.ag (cF f)] (.b (noughtF f)) := by
  refine ans ref06_nought.f ?_
  obtain ⟨r, hr⟩ : ∃ r, r = noughtF f := ⟨_, rfl⟩
  rw [← hr]
  simp +contextual (disch := omega) [Nat.add_assoc, Int.add_assoc, if_pos, if_neg, -Int.not_lt, -Int.not_le, -Nat.not_lt, -Nat.not_le, -List.length_flatMap, ref06_nought.c]
  refine for_w (fun i e m x => e 1 = .p 0 0 ∧ m 0 = some (.cells (cF f) false) ∧ e 3 = .i .i64 i ∧ (f.offs.take i).all (fun a => decide (a < 0)) = true) f.offs.length ?_ ?_ ?_
  · simp +contextual (disch := omega) [Nat.add_assoc, Int.add_assoc, if_pos, if_neg, -Int.not_lt, -Int.not_le, -Nat.not_lt, -Nat.not_le, -List.length_flatMap]
  · rintro i e m x hi ⟨g1, y0, g3, hg⟩
    by_cases h1 : 0 ≤ f.offs[i]
    · have hf : r = false := by
        have := all_at (p := fun a => decide (a < 0)) hi (by simp; omega)
        rw [hr]; unfold noughtF; rw [this]; simp
      simp +contextual (disch := omega) [Nat.add_assoc, Int.add_assoc, if_pos, if_neg, -Int.not_lt, -Int.not_le, -Nat.not_lt, -Nat.not_le, -List.length_flatMap, ref06_nought.b1, g1, y0, g3, hi, h1, hf]
    · have hg' := take_all (p := fun a => decide (a < 0)) hi hg (by simp; omega)
      have hg2 : ∀ x, x ∈ f.offs.take (i + 1) → x < 0 := fun x hx => by simpa using List.all_eq_true.1 hg' x hx
      simp +contextual (disch := omega) [Nat.add_assoc, Int.add_assoc, if_pos, if_neg, -Int.not_lt, -Int.not_le, -Nat.not_lt, -Nat.not_le, -List.length_flatMap, ref06_nought.b1, g1, y0, g3, hi, h1]
      exact hg2
  · rintro e m x ⟨g1, y0, g3, hg⟩
    rw [List.take_length] at hg
    have hf : r = decide (f.cst = 0) := by rw [hr]; unfold noughtF; rw [hg]; simp
    simp +contextual (disch := omega) [Nat.add_assoc, Int.add_assoc, if_pos, if_neg, -Int.not_lt, -Int.not_le, -Nat.not_lt, -Nat.not_le, -List.length_flatMap, ref06_nought.b1, g1, y0, g3, hf]
theorem zipM_step {a b : List Int} {i : Nat} (h1 : i < a.length) (h2 : i < b.length) : zipM (a.take (i + 1)) (b.take (i + 1)) = zipM (a.take i) (b.take i) ++ [max a[i] b[i]] := by
  induction a generalizing b i with
  | nil => simp at h1
  | cons x a ih =>
    cases b with
    | nil => simp at h2
    | cons y b =>
      cases i with
      | zero => simp [zipM]
      | succ i => simp only [List.take_succ_cons, zipM, List.cons_append, List.getElem_cons_succ, ih (by simpa using h1) (by simpa using h2)]
theorem ref06_both.a (f g : F) (hl : f.offs.length = g.offs.length) (hl2 : f.offs.length ≤ 1000) : Ans ctx ref06_both.n [.ag (cF f), .ag (cF g)] (.ag (cF (joinF f g))) := by
  refine ans ref06_both.f ?_
  simp +contextual (disch := omega) [Nat.add_assoc, Int.add_assoc, if_pos, if_neg, -Int.not_lt, -Int.not_le, -Nat.not_lt, -Nat.not_le, -List.length_flatMap, ref06_both.c]
  refine for_w (fun i e m x => ∃ B, e 2 = .p 0 0 ∧ e 3 = .p 1 0 ∧ e 4 = .p 2 0 ∧ e 5 = .p 9 0 ∧ e 6 = .i .i64 i ∧ 10 ≤ x ∧ m 0 = some (.cells (cF f) false) ∧ m 1 = some (.cells (cF g) false) ∧ m 2 = some (.cells [.i .i64 0, .ns] false) ∧ m 9 = some (.cells [.i .i64 (max f.cst g.cst), B] false) ∧
    Ex m B (zipM (f.offs.take i) (g.offs.take i)) 10 x) f.offs.length ?_ ?_ ?_
  · refine ⟨.ns, ?_⟩
    simp +contextual (disch := omega) [Nat.add_assoc, Int.add_assoc, if_pos, if_neg, -Int.not_lt, -Int.not_le, -Nat.not_lt, -Nat.not_le, -List.length_flatMap]
    exact .inl ⟨rfl, by simp [zipM]⟩
  · rintro i e m x hi ⟨B, g2, g3, g4, g5, g6, gx, y0, y1, y2, y3, gB⟩
    have hi2 : i < g.offs.length := by omega
    simp +contextual (disch := omega) [Nat.add_assoc, Int.add_assoc, if_pos, if_neg, -Int.not_lt, -Int.not_le, -Nat.not_lt, -Nat.not_le, -List.length_flatMap, ref06_both.b1, g2, g3, g4, g5, g6, y0, y1, y2, y3, hi, hi2, -apV_ns]
    have hzl : (zipM (f.offs.take i) (g.offs.take i)).length = i := by rw [zipM_len (by simp [List.length_take]; omega)]; simp; omega
    refine gB.ap [max f.offs[i] g.offs[i]] (fun j h1 h2 => by simp +contextual (disch := omega) [Nat.add_assoc, Int.add_assoc, if_pos, if_neg, -Int.not_lt, -Int.not_le, -Nat.not_lt, -Nat.not_le, -List.length_flatMap]) (by omega) (by omega) rfl rfl (by simp) (by rw [hzl]; simp; omega) ?_
    intro B' ws m2 z0 z1 z2 z3
    have q0 : m2 0 = some (.cells (cF f) false) := by rw [z2 0 (by omega)]; simp +contextual (disch := omega) [Nat.add_assoc, Int.add_assoc, if_pos, if_neg, -Int.not_lt, -Int.not_le, -Nat.not_lt, -Nat.not_le, -List.length_flatMap, y0]
    have q1 : m2 1 = some (.cells (cF g) false) := by rw [z2 1 (by omega)]; simp +contextual (disch := omega) [Nat.add_assoc, Int.add_assoc, if_pos, if_neg, -Int.not_lt, -Int.not_le, -Nat.not_lt, -Nat.not_le, -List.length_flatMap, y1]
    have q2 : m2 2 = some (.cells [.i .i64 0, .ns] false) := by rw [z2 2 (by omega)]; simp +contextual (disch := omega) [Nat.add_assoc, Int.add_assoc, if_pos, if_neg, -Int.not_lt, -Int.not_le, -Nat.not_lt, -Nat.not_le, -List.length_flatMap, y2]
    have q9 : m2 9 = some (.cells [.i .i64 (max f.cst g.cst), B] false) := by rw [z2 9 (by omega)]; simp +contextual (disch := omega) [Nat.add_assoc, Int.add_assoc, if_pos, if_neg, -Int.not_lt, -Int.not_le, -Nat.not_lt, -Nat.not_le, -List.length_flatMap, y3]
    have hst := z1.stor
    rw [← zipM_step hi hi2] at z1
    simp +contextual (disch := omega) [Nat.add_assoc, Int.add_assoc, if_pos, if_neg, -Int.not_lt, -Int.not_le, -Nat.not_lt, -Nat.not_le, -List.length_flatMap, z0, g2, g3, g4, g5, g6, q0, q1, q2, q9, hst.1, hst.2.1]
    exact z1.up (by omega) (by omega) (fun j h1 h2 => by simp +contextual (disch := omega) [Nat.add_assoc, Int.add_assoc, if_pos, if_neg, -Int.not_lt, -Int.not_le, -Nat.not_lt, -Nat.not_le, -List.length_flatMap])
  · rintro e m x ⟨B, g2, g3, g4, g5, g6, gx, y0, y1, y2, y3, gB⟩
    have hst := gB.stor
    simp +contextual (disch := omega) [Nat.add_assoc, Int.add_assoc, if_pos, if_neg, -Int.not_lt, -Int.not_le, -Nat.not_lt, -Nat.not_le, -List.length_flatMap, ref06_both.b1, g2, g3, g4, g5, g6, y0, y1, y2, y3, hst.1, hst.2.1]
    have hfz := (gB.up (m' := m.set 2 (some (.cells [.i .i64 (max f.cst g.cst), B] false))) (Nat.le_refl _) (Nat.le_refl _) (fun j h1 h2 => by simp +contextual (disch := omega) [Nat.add_assoc, Int.add_assoc, if_pos, if_neg, -Int.not_lt, -Int.not_le, -Nat.not_lt, -Nat.not_le, -List.length_flatMap])).bf.fz24
    rw [List.take_length, hl, List.take_length] at hfz
    simp +contextual (disch := omega) [Nat.add_assoc, Int.add_assoc, if_pos, if_neg, -Int.not_lt, -Int.not_le, -Nat.not_lt, -Nat.not_le, -List.length_flatMap, hfz, cF, joinF]
end Pi

