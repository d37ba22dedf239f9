/- Contracts: levels by cases (layer 7): values by which a flat is more. -/
import Derived.Test.YtbkkigmlkafeiaaC09e
import Derived.Test.YtbkkigmlkafeiaaC12a
set_option linter.unusedSimpArgs false
set_option linter.unusedVariables false
namespace Pi
end Pi


set_option linter.unusedSimpArgs false
set_option linter.unusedVariables false
namespace Pi
theorem fz_bare {m : Sto} {Z : V} {z : List Bool} {lo x : Nat} (h : Zm m Z z lo x) {m' : Sto} (hm : ∀ j, lo ≤ j → j < x → bare (m' j) = bare (m j)) : frzW (der m' 24) Z = some (sV cB z, refOf Z) := by
  rcases h with ⟨rfl, rfl⟩ | ⟨b, rfl, h1, h2, h3⟩
  · rw [frzW_ns]; rfl
  · have := hm b h2 h3
    rw [h1] at this
    rw [frzW_ms, der_s, derO_bare, this, ← derO_bare, derO_cells, (Rm.full (f := cB) (k := 1) z).fz]
    have hl := flatB_len z
    simp [sV, refOf, hl]
    rw [← hl, List.take_length]
end Pi


set_option linter.unusedSimpArgs false
set_option linter.unusedVariables false
namespace Pi
def possAt (cs : List Kn) (n k : Nat) : Option (List Int) := valO (caseP k n) (clU cs (caseP k n))
def possU (cs : List Kn) (n : Nat) : Option (List Int) := firstU (possAt cs n) (2 ^ n)
def possV (cs : List Kn) (p : Int) : V := if RightU cs p = true then .tu [.b (possU cs p.toNat).isSome, sV cI ((possU cs p.toNat).getD []), .i .i64 0] else .tu [.b false, sV cI [], .i .i64 1]
theorem RightU_ok {cs : List Kn} {p : Int} (h : RightU cs p = true) (hc : ∀ c ∈ cs, c.Ok) : ∃ n : Nat, p = n ∧ n ≤ 5 ∧ ∀ z : List Bool, z.length = n → GoodKs cs z := by
  simp [RightU] at h
  refine ⟨p.toNat, by omega, by omega, fun z hz => ⟨by omega, by omega, fun c hcm => ?_⟩⟩
  have h1 := h.2 c hcm
  simp only [rightK, Bool.and_eq_true] at h1
  have e : ((z.length : Nat) : Int) = p := by omega
  rw [e]
  exact ⟨hc c hcm, h1.1, h1.2⟩
theorem under_Possible_1.w {cs : List Kn} {z : List Bool} (hg : GoodKs cs z) {M : Sto} {y x : Nat} {Z : V} {K : CR → Sto → Nat → Prop} (hyx : y ≤ x) (hZ : Zm M Z z y x)
    (hret : ∀ M' x' r, x ≤ x' → (∀ j, j < x → M' j = M j) → Rw r (valO z (clU cs z)) M' x x' → K (.ret (.tu [r, .b (valO z (clU cs z)).isSome])) M' x') :
    Pi.w ctx (envOf [.ag [sV cK cs, Z]]) M x [] none none (RetG ctx under_Possible_1.c.rs K) under_Possible_1.c.code := by
  have h := under_situation_values.r hg [] (by simp) (by simp)
  rw [List.append_nil, ← valO_some] at h
  rw [show sV cC [] = V.sl [] 0 from rfl] at h
  have hst := hZ.bf.stor
  have hce := hZ.bf.cells
  have hz := fz_bare hZ (m' := M.set x (some (.cells [sV cK cs, Z] false))) (fun j h1 h2 => by simp +contextual (disch := omega) [Nat.add_assoc, Int.add_assoc, if_pos, if_neg, -Int.not_lt, -Int.not_le, -Nat.not_lt, -Nat.not_le, -List.length_flatMap])
  simp +contextual (disch := omega) [Nat.add_assoc, Int.add_assoc, if_pos, if_neg, -Int.not_lt, -Int.not_le, -Nat.not_lt, -Nat.not_le, -List.length_flatMap, under_Possible_1.c, hst, hce]
  refine under_situation_values.fr ?_
  simp +contextual (disch := omega) [Nat.add_assoc, Int.add_assoc, if_pos, if_neg, -Int.not_lt, -Int.not_le, -Nat.not_lt, -Nat.not_le, -List.length_flatMap, hz]
  refine ansFK h ?_
  have h1 := Rw.out (valO z (clU cs z)) (M.set x (some (.cells [sV cK cs, Z] false))) (x + 4)
  have h2 := outC_lt (valO z (clU cs z)) (M.set x (some (.cells [sV cK cs, Z] false))) (x + 4)
  generalize valO z (clU cs z) = o at *
  simp +contextual (disch := omega) [Nat.add_assoc, Int.add_assoc, if_pos, if_neg, -Int.not_lt, -Int.not_le, -Nat.not_lt, -Nat.not_le, -List.length_flatMap]
  refine hret _ _ _ (by omega) (fun j hj => ?_) (h1.up (fun _ _ _ => rfl) (by omega) (by omega))
  rw [h2.2 j (by omega), Sto.sne _ _ _ _ (by omega)]
set_option maxRecDepth 20000 in
theorem under_Possible.a (cs : List Kn) (hc : ∀ c ∈ cs, c.Ok) (hl : cs.length ≤ 9223372036854775807) (p : Int) : Ans ctx under_Possible.n [sV cK cs, .i .i64 p] (possV cs p) := by
  refine ans under_Possible.f ?_
  have hR := under_Right.a cs hc hl p
  unfold possV
  cases hr : RightU cs p with
  | false =>
    rw [hr] at hR
    simp +contextual (disch := omega) [Nat.add_assoc, Int.add_assoc, if_pos, if_neg, -Int.not_lt, -Int.not_le, -Nat.not_lt, -Nat.not_le, -List.length_flatMap, under_Possible.c, ansK hR]
  | true =>
    rw [hr] at hR
    obtain ⟨n, rfl, hn, hg⟩ := RightU_ok hr hc
    have hnn : ((n : Int)).toNat = n := by omega
    rw [hnn]
    simp +contextual (disch := omega) [Nat.add_assoc, Int.add_assoc, if_pos, if_neg, -Int.not_lt, -Int.not_le, -Nat.not_lt, -Nat.not_le, -List.length_flatMap, under_Possible.c, ansK hR]
    rw [CallX_op (by rfl)]
    refine openg_w under_first.f rfl (.inl rfl) ?_
    have hff : ctx.frz under_first.n = false := rfl
    rw [hff]
    refine under_first.w hn cs _ rfl rfl (possAt cs n) ?_ ?_
    · intro k hk M y x Z K' hy hyx hM hZ hret
      have hff : ctx.frz under_Possible_1.n = false := rfl
      rw [CallX_op (by rfl)]
      refine openg_w under_Possible_1.f rfl (.inl rfl) ?_
      rw [hff]
      refine under_Possible_1.w (hg (caseP k n) (caseP_len k n)) hyx hZ ?_
      intro M' x' r hx' hM' hr
      exact hret M' x' r hx' (fun j hj => hM' j (by omega)) (hr.up (fun _ _ _ => rfl) hyx (Nat.le_refl _))
    · intro m' x' r hx' hm' hr
      have hrs := hr.stor
      obtain ⟨ids, hrz, _⟩ := hr.fz
      rw [show firstU (possAt cs n) (2 ^ n) = possU cs n from rfl] at hr hrz ⊢
      simp +contextual (disch := omega) [Nat.add_assoc, Int.add_assoc, if_pos, if_neg, -Int.not_lt, -Int.not_le, -Nat.not_lt, -Nat.not_le, -List.length_flatMap, hrs.1, hrs.2, hrz]
end Pi


set_option linter.unusedSimpArgs false
set_option linter.unusedVariables false
namespace Pi
theorem atomsO_bd {n : Nat} : ∀ (l : List Int) (i : Nat), i + l.length ≤ n + 1 → (∀ a ∈ l, a ≤ 11) → ∀ t ∈ atomsO l i, (i : Int) ≤ t.var ∧ t.var ≤ n ∧ 0 ≤ t.off ∧ t.off ≤ 11
  | [], _, _, _, t, h => by cases h
  | a :: r, i, hn, hl, t, h => by
    rw [List.length_cons] at hn
    unfold atomsO at h
    have ih := atomsO_bd (n := n) r (i + 1) (by omega) (fun b hb => hl b (List.mem_cons_of_mem _ hb)) t
    split at h
    · rename_i h0
      rcases List.mem_cons.1 h with rfl | h
      · have := hl a (by simp)
        exact ⟨by simp only; omega, by simp only; omega, h0, this⟩
      · have := ih h; omega
    · have := ih h; omega
theorem atomsF_bd {l : L} {z : List Bool} (hr : RightS l z.length 0 = true) : ∀ t ∈ atomsF (flattenF l z), 0 ≤ t.var ∧ t.var ≤ z.length ∧ 0 ≤ t.off ∧ t.off ≤ 12 := by
  obtain ⟨hp, hr'⟩ := RightS_ok (q := 0) hr
  have hbd := ofS_bd l z 12 hr'
  have hlen := flattenF_len hr
  intro t ht
  have hall : (flattenF l z).cst ≤ 12 ∧ 0 ≤ (flattenF l z).cst ∧ ∀ a ∈ (flattenF l z).offs, a ≤ 11 := by
    unfold flattenF
    split
    · exact ⟨by simp, by simp, fun a ha => (hbd.2.2 a ha).2⟩
    · exact ⟨by have := hbd.2.1.2; omega, hbd.2.1.1, fun a ha => (hbd.2.2 a ha).2⟩
  unfold atomsF at ht
  rcases List.mem_cons.1 ht with rfl | ht
  · exact ⟨by simp, by simp, hall.2.1, hall.1⟩
  · have := atomsO_bd (n := z.length) _ 1 (by omega) hall.2.2 t ht
    omega
def moreU (x : A) (l : List A) : List C := l.map fun y => ⟨[x], ⟨y.var, y.off + 1⟩⟩
theorem moreU_len (x : A) (l : List A) : (moreU x l).length = l.length := by simp [moreU]
theorem moreU_s (u : A) (l : List A) {j : Nat} (hj : j < l.length) : moreU u (l.take (j + 1)) = moreU u (l.take j) ++ [⟨[u], ⟨l[j].var, l[j].off + 1⟩⟩] := by
  unfold moreU
  rw [List.take_succ_eq_append_getElem hj, List.map_append]
  rfl
def leqAtU (cs : List Kn) (a b : L) (z : List Bool) : Option (List Int) := (atomsF (flattenF a z)).findSome? fun x => valO z (clU cs z ++ moreU x (atomsF (flattenF b z)))
def leqU (cs : List Kn) (a b : L) (n : Nat) : Option (List Int) := firstU (fun k => leqAtU cs a b (caseP k n)) (2 ^ n)
def leqUV (cs : List Kn) (p : Int) (a b : L) : V := if RightU cs p = true ∧ RightS a p 0 = true ∧ RightS b p 0 = true then .tu [.b (!(leqU cs a b p.toNat).isSome), sV cI ((leqU cs a b p.toNat).getD []), .i .i64 0] else .tu [.b false, sV cI [], .i .i64 1]
def leqRU (cs : List Kn) (p : Int) (a b : L) : Bool := RightU cs p && RightS a p 0 && RightS b p 0
def leqBU (cs : List Kn) (p : Int) (a b : L) : Bool := leqRU cs p a b && !(leqU cs a b p.toNat).isSome
def leqOU (cs : List Kn) (p : Int) (a b : L) : Option (List Int) := if leqRU cs p a b = true then leqU cs a b p.toNat else none
def leqEU (cs : List Kn) (p : Int) (a b : L) : Int := if leqRU cs p a b = true then 0 else 1
theorem leqUV_eq (cs : List Kn) (p : Int) (a b : L) : leqUV cs p a b = .tu [.b (leqBU cs p a b), sV cI ((leqOU cs p a b).getD []), .i .i64 (leqEU cs p a b)] := by
  unfold leqUV leqBU leqOU leqEU leqRU
  cases RightU cs p <;> cases RightS a p 0 <;> cases RightS b p 0 <;> simp
theorem findSome_at {α β : Type} {g : α → Option β} {l : List α} {i : Nat} {v : β} (hi : i < l.length) (h0 : ∀ u ∈ l.take i, g u = none) (h1 : g l[i] = some v) : l.findSome? g = some v := by
  have e : l = l.take i ++ l[i] :: l.drop (i + 1) := by rw [← List.drop_eq_getElem_cons hi, List.take_append_drop]
  rw [e, List.findSome?_append, List.findSome?_eq_none_iff.2 h0, List.findSome?_cons, h1]
  rfl
set_option maxRecDepth 20000 in
set_option maxHeartbeats 4000000 in
theorem under_Leq_1.w {cs : List Kn} {z : List Bool} (hg : GoodKs cs z) {a b : L} (oka : a.Ok) (okb : b.Ok) (hra : RightS a z.length 0 = true) (hrb : RightS b z.length 0 = true) {pa pb y x : Nat} {M : Sto} {Z : V} {K : CR → Sto → Nat → Prop}
    (ha : M pa = some (.cells (cL a) false)) (hb : M pb = some (.cells (cL b) false)) (hay : pa < y) (hby : pb < y) (hyx : y ≤ x) (hZ : Zm M Z z y x)
    (hret : ∀ M' x' r, x ≤ x' → (∀ j, j < y → M' j = M j) → Rw r (leqAtU cs a b z) M' x x' → K (.ret (.tu [r, .b (leqAtU cs a b z).isSome])) M' x') :
    Pi.w ctx (envOf [.ag [sV cK cs, Z], .p pa 0, .p pb 0]) M x [] none none (RetG ctx under_Leq_1.c.rs K) under_Leq_1.c.code := by
  have hA := under_situation_atoms.a cs z a oka hra
  have hB := under_situation_atoms.a cs z b okb hrb
  have hst := hZ.bf.stor
  have hce := hZ.bf.cells
  have hni : ∀ j, j < y → j ∉ refOf Z := fun j hj h => by
    rcases hZ with ⟨rfl, _⟩ | ⟨b, rfl, _, h2, h3⟩
    · simp [refOf] at h
    · simp [refOf] at h; omega
  have hni2 : ∀ j, x ≤ j → j ∉ refOf Z := fun j hj h => by
    rcases hZ with ⟨rfl, _⟩ | ⟨b, rfl, _, h2, h3⟩
    · simp [refOf] at h
    · simp [refOf] at h; omega
  have hfz := fun m' h => fz_bare hZ (m' := m') h
  obtain ⟨la, hla⟩ : ∃ la, la = atomsF (flattenF a z) := ⟨_, rfl⟩
  obtain ⟨lb, hlb⟩ : ∃ lb, lb = atomsF (flattenF b z) := ⟨_, rfl⟩
  have hz5 := hg.1
  have hll : la.length ≤ 6 ∧ lb.length ≤ 6 := by
    have h1 := atomsF_len (flattenF a z)
    have h2 := atomsF_len (flattenF b z)
    rw [flattenF_len hra] at h1
    rw [flattenF_len hrb] at h2
    rw [hla, hlb]
    omega
  have hbd : ∀ t ∈ lb, 0 ≤ t.var ∧ t.var ≤ z.length ∧ 0 ≤ t.off ∧ t.off ≤ 12 := by rw [hlb]; exact atomsF_bd hrb
  obtain ⟨g, hgd⟩ : ∃ g : A → Option (List Int), g = fun u => valO z (clU cs z ++ moreU u lb) := ⟨_, rfl⟩
  have hres : leqAtU cs a b z = la.findSome? g := by unfold leqAtU; rw [hgd, hla, hlb]
  rw [hres] at hret
  rw [← hla] at hA
  rw [← hlb] at hB
  have hgo : ∀ u, g u = valO z (clU cs z ++ moreU u lb) := fun u => by rw [hgd]
  clear hres hgd hla hlb
  obtain ⟨M1, hM1⟩ : ∃ M1, M1 = M.set x (some (.cells [sV cK cs, Z] false)) := ⟨_, rfl⟩
  have u0 : ∀ j, j < x → M1 j = M j := fun j hj => by rw [hM1, Sto.sne _ _ _ _ (by omega)]
  have ux : M1 x = some (.cells [sV cK cs, Z] false) := by rw [hM1, Sto.seq]
  have hz1 := hfz M1 (fun j h1 h2 => by rw [u0 j h2])
  obtain ⟨M2, hM2⟩ : ∃ M2, M2 = aft (sV cA la) M1 (refOf Z) := ⟨_, rfl⟩
  have w0 : ∀ j, j < y → M2 j = M j := fun j hj => by rw [hM2, aft_none _ _ _ _ (hni j hj), u0 j (by omega)]
  have wb : ∀ j, y ≤ j → j < x → bare (M2 j) = bare (M j) := fun j h1 h2 => by rw [hM2, bare_aft, u0 j h2]
  have wx : M2 x = some (.cells [sV cK cs, Z] false) := by rw [hM2, aft_none _ _ _ _ (hni2 x (by omega)), ux]
  simp +contextual (disch := omega) [Nat.add_assoc, Int.add_assoc, if_pos, if_neg, -Int.not_lt, -Int.not_le, -Nat.not_lt, -Nat.not_le, -List.length_flatMap, under_Leq_1.c, hst, hce, hM1.symm, ux, (u0 pa (by omega)).trans ha, hz1, ansK hA, hM2.symm]
  refine for_w (fun i e m x' => e 1 = .p pa 0 ∧ e 2 = .p pb 0 ∧ e 3 = .p x 0 ∧ e 15 = sV cA la ∧ e 16 = .i .i64 la.length ∧ e 17 = .i .i64 i ∧ x + 1 ≤ x' ∧ (∀ j, j < y → m j = M j) ∧ (∀ j, y ≤ j → j < x → bare (m j) = bare (M j)) ∧ m x = some (.cells [sV cK cs, Z] false) ∧ ∀ u ∈ la.take i, g u = none) la.length ?_ ?_ ?_
  · simp +contextual (disch := omega) [Nat.add_assoc, Int.add_assoc, if_pos, if_neg, -Int.not_lt, -Int.not_le, -Nat.not_lt, -Nat.not_le, -List.length_flatMap]
    exact ⟨w0, wb, wx⟩
  · rintro i e m x' hi ⟨g1, g2, g3, g15, g16, g17, gx, m0, mb, mx, gn⟩
    simp +contextual (disch := omega) [Nat.add_assoc, Int.add_assoc, if_pos, if_neg, -Int.not_lt, -Int.not_le, -Nat.not_lt, -Nat.not_le, -List.length_flatMap, under_Leq_1.b2, g1, g2, g3, g15, g16, g17, hi, mx, m0 pb hby, hb, hst, hce]
    generalize hM3 : Sto.set (Sto.set m (x' + 3) _) (x' + 3) _ = M3
    have t0 : ∀ j, j < x' + 3 → M3 j = m j := fun j hj => by rw [← hM3]; simp +contextual (disch := omega) [Nat.add_assoc, Int.add_assoc, if_pos, if_neg, -Int.not_lt, -Int.not_le, -Nat.not_lt, -Nat.not_le, -List.length_flatMap]
    have t3 : M3 (x' + 3) = some (.cells (cA la[i]) false) := by rw [← hM3]; simp +contextual (disch := omega) [Nat.add_assoc, Int.add_assoc, if_pos, if_neg, -Int.not_lt, -Int.not_le, -Nat.not_lt, -Nat.not_le, -List.length_flatMap]
    clear hM3
    have hz3 := hfz M3 (fun j h1 h2 => by rw [t0 j (by omega), mb j h1 h2])
    obtain ⟨M4, hM4⟩ : ∃ M4, M4 = aft (sV cA lb) M3 (refOf Z) := ⟨_, rfl⟩
    have s0 : ∀ j, j < y → M4 j = M j := fun j hj => by rw [hM4, aft_none _ _ _ _ (hni j hj), t0 j (by omega), m0 j hj]
    have sb : ∀ j, y ≤ j → j < x → bare (M4 j) = bare (M j) := fun j h1 h2 => by rw [hM4, bare_aft, t0 j (by omega), mb j h1 h2]
    have sx : M4 x = some (.cells [sV cK cs, Z] false) := by rw [hM4, aft_none _ _ _ _ (hni2 x (by omega)), t0 x (by omega), mx]
    have s3 : M4 (x' + 3) = some (.cells (cA la[i]) false) := by rw [hM4, aft_none _ _ _ _ (hni2 _ (by omega)), t3]
    simp +contextual (disch := omega) [Nat.add_assoc, Int.add_assoc, if_pos, if_neg, -Int.not_lt, -Int.not_le, -Nat.not_lt, -Nat.not_le, -List.length_flatMap, hz3, ansK hB, hM4.symm]
    clear hM4 hz3
    refine for_w (fun j e m' xx => e 1 = .p pa 0 ∧ e 2 = .p pb 0 ∧ e 3 = .p x 0 ∧ e 7 = .p (x' + 3) 0 ∧ e 15 = sV cA la ∧ e 16 = .i .i64 la.length ∧ e 17 = .i .i64 i ∧ e 23 = sV cA lb ∧ e 24 = .i .i64 lb.length ∧ e 25 = .i .i64 j ∧ x' + 10 ≤ xx ∧ (∀ q, q < x' + 10 → m' q = M4 q) ∧ ∃ fs, Xc m' (e 8) (moreU la[i] (lb.take j)) fs (x' + 10) xx) lb.length ?_ ?_ ?_
    · simp +contextual (disch := omega) [Nat.add_assoc, Int.add_assoc, if_pos, if_neg, -Int.not_lt, -Int.not_le, -Nat.not_lt, -Nat.not_le, -List.length_flatMap, g1, g2, g3, g15, g16, g17]
      exact ⟨_, Xc.nil⟩
    · rintro j e m' xx hj ⟨q1, q2, q3, q7, q15, q16, q17, q23, q24, q25, qx, qm, fs, qX⟩
      have hs1 := moreU_s la[i] lb hj
      have hln := moreU_len la[i] (lb.take j)
      rw [List.length_take] at hln
      have hst8 := qX.rc.stor
      have hsc8 := qX.rc.cells
      rw [hs1]
      generalize hV8 : e 8 = V8 at *
      have bj := hbd _ (List.getElem_mem hj)
      generalize la[i] = u at *
      generalize moreU u (lb.take j) = pre at *
      simp +contextual (disch := omega) [Nat.add_assoc, Int.add_assoc, if_pos, if_neg, -Int.not_lt, -Int.not_le, -Nat.not_lt, -Nat.not_le, -List.length_flatMap, under_Leq_1.b1, q1, q2, q3, q7, q15, q16, q17, q23, q24, q25, hj, hV8, qm (x' + 3) (by omega), s3, hst8, hsc8, -apV_ns]
      generalize hN : Sto.set (Sto.set (Sto.set (Sto.set m' (xx + 3) _) (xx + 3) _) (xx + 7) _) (xx + 15) _ = N
      have n0 : ∀ q, q < xx → N q = m' q := fun q hq => by rw [← hN]; simp +contextual (disch := omega) [Nat.add_assoc, Int.add_assoc, if_pos, if_neg, -Int.not_lt, -Int.not_le, -Nat.not_lt, -Nat.not_le, -List.length_flatMap]
      have n7 : N (xx + 7) = some (.cells (cA u) false) := by rw [← hN]; simp +contextual (disch := omega) [Nat.add_assoc, Int.add_assoc, if_pos, if_neg, -Int.not_lt, -Int.not_le, -Nat.not_lt, -Nat.not_le, -List.length_flatMap]
      clear hN
      have hF : Bf N (.ms (xx + 7) 0 1 2) cA 2 [u] (xx + 7) (xx + 8) := Bf.mem n7 (by simp) rfl (by omega) (by omega)
      refine qX.ap (dl := [⟨[u], ⟨lb[j].var, lb[j].off + 1⟩⟩]) (gs := [.ms (xx + 7) 0 1 2]) (lo := x' + 10) (fun q h1 h2 => n0 q (by omega)) (by omega) (by omega) (by omega) rfl rfl ⟨(Rl.Bf hF).mono (fun q hq => by omega), trivial⟩ (by simp; omega) ?_
      intro B' ws N2 z0 z1 z2 z3
      simp +contextual (disch := omega) [Nat.add_assoc, Int.add_assoc, if_pos, if_neg, -Int.not_lt, -Int.not_le, -Nat.not_lt, -Nat.not_le, -List.length_flatMap, z0, q1, q2, q3, q7, q15, q16, q17, q23, q24, q25]
      refine ⟨by omega, fun q hq => by rw [z2 q (by omega), n0 q (by omega), qm q hq], _, z1.up (Nat.le_refl _) (by omega) (fun _ _ _ => rfl)⟩
    · rintro e m' xx ⟨q1, q2, q3, q7, q15, q16, q17, q23, q24, q25, qx, qm, fs, qX⟩
      rw [List.take_length] at qX
      have hln := moreU_len la[i] lb
      have hV := under_situation_values.r hg (moreU la[i] lb) (by omega) (fun c hc => by
        obtain ⟨t, _, rfl⟩ := List.mem_map.1 hc
        simp)
      have ho1 := hgo la[i]
      rw [← valO_some, ← ho1] at hV
      obtain ⟨ids, hzX, hids⟩ := qX.rc.fz24
      have hst8 := qX.rc.stor
      have hsc8 := qX.rc.cells
      have hz5' := hfz m' (fun q h1 h2 => by rw [qm q (by omega), sb q h1 h2])
      have hR := Rw.out (g la[i]) m' (xx + 3)
      have hC := outC_lt (g la[i]) m' (xx + 3)
      generalize hV8 : e 8 = V8 at *
      simp +contextual (disch := omega) [Nat.add_assoc, Int.add_assoc, if_pos, if_neg, -Int.not_lt, -Int.not_le, -Nat.not_lt, -Nat.not_le, -List.length_flatMap, under_Leq_1.b1, q1, q2, q3, q7, q15, q16, q17, q23, q24, q25, hV8, hst8, hsc8, qm x (by omega), sx]
      refine under_situation_values.fr ?_
      simp +contextual (disch := omega) [Nat.add_assoc, Int.add_assoc, if_pos, if_neg, -Int.not_lt, -Int.not_le, -Nat.not_lt, -Nat.not_le, -List.length_flatMap, hz5', hzX]
      refine ansFK hV ?_
      have hM0 : ∀ j, j < y → fM m' (xx + 3) (outC (g la[i])) j = M j := fun j hj => by rw [hC.2 j (by omega), qm j (by omega), s0 j hj]
      have hMb : ∀ j, y ≤ j → j < x → bare (fM m' (xx + 3) (outC (g la[i])) j) = bare (M j) := fun j h1 h2 => by rw [hC.2 j (by omega), qm j (by omega), sb j h1 h2]
      have hMx : fM m' (xx + 3) (outC (g la[i])) x = some (.cells [sV cK cs, Z] false) := by rw [hC.2 x (by omega), qm x (by omega), sx]
      generalize fM m' (xx + 3) (outC (g la[i])) = M5 at *
      generalize fX (xx + 3) (outC (g la[i])) = x5 at *
      cases hgi : g la[i] with
      | none =>
        simp +contextual (disch := omega) [Nat.add_assoc, Int.add_assoc, if_pos, if_neg, -Int.not_lt, -Int.not_le, -Nat.not_lt, -Nat.not_le, -List.length_flatMap, q1, q2, q3, q7, q15, q16, q17, q23, q24, q25]
        refine ⟨by omega, hM0, hMb, hMx, fun u hu => ?_⟩
        rw [List.take_succ_eq_append_getElem hi, List.mem_append, List.mem_singleton] at hu
        rcases hu with h | rfl
        · exact gn u h
        · exact hgi
      | some v =>
        simp +contextual (disch := omega) [Nat.add_assoc, Int.add_assoc, if_pos, if_neg, -Int.not_lt, -Int.not_le, -Nat.not_lt, -Nat.not_le, -List.length_flatMap, q1, q2, q3, q7, q15, q16, q17, q23, q24, q25]
        rw [findSome_at hi gn hgi] at hret
        rw [hgi] at hR
        exact hret _ _ _ (by omega) hM0 (hR.up (fun _ _ _ => rfl) (by omega) (by omega))
  · rintro e m x' ⟨g1, g2, g3, g15, g16, g17, gx, m0, mb, mx, gn⟩
    rw [List.take_length] at gn
    rw [List.findSome?_eq_none_iff.2 gn] at hret
    simp +contextual (disch := omega) [Nat.add_assoc, Int.add_assoc, if_pos, if_neg, -Int.not_lt, -Int.not_le, -Nat.not_lt, -Nat.not_le, -List.length_flatMap, under_Leq_1.b2, g1, g2, g3, g15, g16, g17]
    exact hret _ _ _ (by omega) m0 (.inl ⟨rfl, rfl⟩)
set_option maxRecDepth 20000 in
set_option maxHeartbeats 4000000 in
theorem under_Leq.r (cs : List Kn) (hc : ∀ c ∈ cs, c.Ok) (hl : cs.length ≤ 9223372036854775807) (p : Int) (a b : L) (oka : a.Ok) (okb : b.Ok) : AnsF ctx under_Leq.n [sV cK cs, .i .i64 p, .ag (cL a), .ag (cL b)] (fun x => .tu [.b (leqBU cs p a b), outU (leqOU cs p a b) x, .i .i64 (leqEU cs p a b)]) (outC (leqOU cs p a b)) := by
  refine ansf under_Leq.f ?_
  have hR := under_Right.a cs hc hl p
  have hA := level_Right.a a oka p 0
  have hB := level_Right.a b okb p 0
  unfold leqBU leqOU leqEU leqRU
  cases hr : RightU cs p with
  | false =>
    rw [hr] at hR
    simp +contextual (disch := omega) [Nat.add_assoc, Int.add_assoc, if_pos, if_neg, -Int.not_lt, -Int.not_le, -Nat.not_lt, -Nat.not_le, -List.length_flatMap, under_Leq.c, ansK hR]
    exact FrR_nil3 rfl _ _ _
  | true =>
    rw [hr] at hR
    cases h1 : RightS a p 0 with
    | false =>
      rw [h1] at hA
      simp +contextual (disch := omega) [Nat.add_assoc, Int.add_assoc, if_pos, if_neg, -Int.not_lt, -Int.not_le, -Nat.not_lt, -Nat.not_le, -List.length_flatMap, under_Leq.c, ansK hR, ansK hA]
      exact FrR_nil3 rfl _ _ _
    | true =>
      rw [h1] at hA
      cases h2 : RightS b p 0 with
      | false =>
        rw [h2] at hB
        simp +contextual (disch := omega) [Nat.add_assoc, Int.add_assoc, if_pos, if_neg, -Int.not_lt, -Int.not_le, -Nat.not_lt, -Nat.not_le, -List.length_flatMap, under_Leq.c, ansK hR, ansK hA, ansK hB]
        exact FrR_nil3 rfl _ _ _
      | true =>
        rw [h2] at hB
        obtain ⟨n, rfl, hn, hg⟩ := RightU_ok hr hc
        have hnn : ((n : Int)).toNat = n := by omega
        rw [hnn]
        simp +contextual (disch := omega) [Nat.add_assoc, Int.add_assoc, if_pos, if_neg, -Int.not_lt, -Int.not_le, -Nat.not_lt, -Nat.not_le, -List.length_flatMap, under_Leq.c, ansK hR, ansK hA, ansK hB]
        rw [CallX_op (by rfl)]
        refine openg_w under_first.f rfl (.inl rfl) ?_
        have hff : ctx.frz under_first.n = false := rfl
        rw [hff]
        refine under_first.w hn cs _ rfl rfl (fun k => leqAtU cs a b (caseP k n)) ?_ ?_
        · intro k hk M y x Z K' hy hyx hM hZ hret
          have m0 : M 0 = some (.cells (cL a) false) := by rw [hM 0 (by omega)]; simp +contextual (disch := omega) [Nat.add_assoc, Int.add_assoc, if_pos, if_neg, -Int.not_lt, -Int.not_le, -Nat.not_lt, -Nat.not_le, -List.length_flatMap]
          have m1 : M 1 = some (.cells (cL b) false) := by rw [hM 1 (by omega)]; simp +contextual (disch := omega) [Nat.add_assoc, Int.add_assoc, if_pos, if_neg, -Int.not_lt, -Int.not_le, -Nat.not_lt, -Nat.not_le, -List.length_flatMap]
          have hff : ctx.frz under_Leq_1.n = false := rfl
          rw [CallX_op (by rfl)]
          refine openg_w under_Leq_1.f rfl (.inl rfl) ?_
          rw [hff]
          refine under_Leq_1.w (hg (caseP k n) (caseP_len k n)) oka okb (by rw [caseP_len]; exact h1) (by rw [caseP_len]; exact h2) m0 m1 (by omega) (by omega) hyx hZ ?_
          intro M' x' r hx' hM' hr
          exact hret M' x' r hx' hM' (hr.up (fun _ _ _ => rfl) hyx (Nat.le_refl _))
        · intro m' x' r hx' hm' hr
          have hrs := hr.stor
          rw [show firstU (fun k => leqAtU cs a b (caseP k n)) (2 ^ n) = leqU cs a b n from rfl] at hr ⊢
          simp +contextual (disch := omega) [Nat.add_assoc, Int.add_assoc, if_pos, if_neg, -Int.not_lt, -Int.not_le, -Nat.not_lt, -Nat.not_le, -List.length_flatMap, hrs.1, hrs.2]
          exact (hr.up (fun _ _ _ => rfl) (Nat.le_refl _) (Nat.le_refl _)).frr _ _
end Pi


set_option linter.unusedSimpArgs false
set_option linter.unusedVariables false
namespace Pi
set_option maxRecDepth 20000 in
set_option maxHeartbeats 2000000 in
theorem ref12_clauses.a {cs : List Kn} {z : List Bool} (hg : GoodKs cs z) : Ans ctx ref12_clauses.n [sV cK cs, sV cB z] (sV cC (clU cs z)) := by
  have hgg := hg
  obtain ⟨hz5, hc8, hcs⟩ := hg
  refine ans ref12_clauses.f ?_
  simp +contextual (disch := omega) [Nat.add_assoc, Int.add_assoc, if_pos, if_neg, -Int.not_lt, -Int.not_le, -Nat.not_lt, -Nat.not_le, -List.length_flatMap, ref12_clauses.c]
  refine for_w (fun i e m x => e 0 = sV cK cs ∧ e 1 = sV cB z ∧ e 6 = .i .i64 i ∧ ∃ fs, Xc m (e 5) (clZ (z.take i) 1) fs 0 x) z.length ?_ ?_ ?_
  · simp +contextual (disch := omega) [Nat.add_assoc, Int.add_assoc, if_pos, if_neg, -Int.not_lt, -Int.not_le, -Nat.not_lt, -Nat.not_le, -List.length_flatMap]
    exact ⟨_, Xc.nil⟩
  · rintro i e m x hi ⟨g0, g1, g6, fs, gX⟩
    have hln := clZ_len (z.take i) 1
    rw [List.length_take] at hln
    rw [clZ_s hi]
    have hst := gX.rc.stor
    have hsc := gX.rc.cells
    generalize hB : e 5 = B at *
    cases hzi : z[i] with
    | true =>
      rw [if_pos rfl, List.append_nil]
      simp +contextual (disch := omega) [Nat.add_assoc, Int.add_assoc, if_pos, if_neg, -Int.not_lt, -Int.not_le, -Nat.not_lt, -Nat.not_le, -List.length_flatMap, ref12_clauses.b1, g0, g1, g6, hB, hi, hzi]
      exact ⟨fs, gX.up (Nat.le_refl _) (by omega) (fun _ _ _ => rfl)⟩
    | false =>
      rw [if_neg (by simp)]
      simp +contextual (disch := omega) [Nat.add_assoc, Int.add_assoc, if_pos, if_neg, -Int.not_lt, -Int.not_le, -Nat.not_lt, -Nat.not_le, -List.length_flatMap, ref12_clauses.b1, g0, g1, g6, hB, hi, hzi, hst, hsc, -apV_ns]
      generalize hN : Sto.set (Sto.set m (x + 13) _) (x + 16) _ = N
      have n0 : ∀ q, q < x → N q = m q := fun q hq => by rw [← hN]; simp +contextual (disch := omega) [Nat.add_assoc, Int.add_assoc, if_pos, if_neg, -Int.not_lt, -Int.not_le, -Nat.not_lt, -Nat.not_le, -List.length_flatMap]
      have n7 : N (x + 13) = some (.cells [V.i .i64 ((i : Int) + 1), V.i .i64 0] false) := by rw [← hN]; simp +contextual (disch := omega) [Nat.add_assoc, Int.add_assoc, if_pos, if_neg, -Int.not_lt, -Int.not_le, -Nat.not_lt, -Nat.not_le, -List.length_flatMap]
      clear hN
      have hF : Bf N (.ms (x + 13) 0 1 2) cA 2 [⟨(i : Int) + 1, 0⟩] (x + 13) (x + 14) := Bf.mem n7 rfl rfl (by omega) (by omega)
      refine gX.ap (dl := [⟨[⟨(i : Int) + 1, 0⟩], ⟨0, 1⟩⟩]) (gs := [.ms (x + 13) 0 1 2]) (lo := 0) (fun q h1 h2 => n0 q (by omega)) (by omega) (by omega) (by omega) rfl rfl ⟨(Rl.Bf hF).mono (fun q hq => by omega), trivial⟩ (by simp; omega) ?_
      intro B' ws N2 z0 z1 z2 z3
      simp +contextual (disch := omega) [Nat.add_assoc, Int.add_assoc, if_pos, if_neg, -Int.not_lt, -Int.not_le, -Nat.not_lt, -Nat.not_le, -List.length_flatMap, z0, g0, g1, g6]
      exact ⟨_, z1.up (Nat.le_refl _) (by omega) (fun _ _ _ => rfl)⟩
  · rintro e m x ⟨g0, g1, g6, fs, gX⟩
    rw [clZ_full] at gX
    simp +contextual (disch := omega) [Nat.add_assoc, Int.add_assoc, if_pos, if_neg, -Int.not_lt, -Int.not_le, -Nat.not_lt, -Nat.not_le, -List.length_flatMap, ref12_clauses.b1, g0, g1, g6]
    refine for_w (fun i e m x => e 0 = sV cK cs ∧ e 1 = sV cB z ∧ e 7 = .i .i64 i ∧ ∃ fs, Xa (fun j => j < x) m (e 5) (clZ z 1 ++ (cs.take i).flatMap (clKn z)) fs) cs.length ?_ ?_ ?_
    · simp +contextual (disch := omega) [Nat.add_assoc, Int.add_assoc, if_pos, if_neg, -Int.not_lt, -Int.not_le, -Nat.not_lt, -Nat.not_le, -List.length_flatMap, g0, g1]
      exact ⟨fs, gX.xa.up (fun _ _ => rfl) (fun j hj => by omega)⟩
    · rintro i e m x hi ⟨g0, g1, g7, fs, gX⟩
      obtain ⟨hok, hra, hrb⟩ := hcs _ (List.getElem_mem hi)
      have hFa := ref06_Flatten.a cs[i].a hok.1 z (by omega)
      have hFb := ref06_Flatten.a cs[i].b hok.2 z (by omega)
      rw [flatten_ok rfl hra] at hFa
      rw [flatten_ok rfl hrb] at hFb
      have hlfa := flattenF_len hra
      have hlfb := flattenF_len hrb
      have hA := ref12_Atoms.a (flattenF cs[i].a z) (by omega)
      have hB := ref12_Atoms.a (flattenF cs[i].b z) (by omega)
      have hla : (atomsF (flattenF cs[i].a z)).length ≤ 6 := by have := atomsF_len (flattenF cs[i].a z); omega
      have hs1 : clZ z 1 ++ (cs.take (i + 1)).flatMap (clKn z) = (clZ z 1 ++ (cs.take i).flatMap (clKn z)) ++ clKn z cs[i] := by
        rw [List.take_succ_eq_append_getElem hi, List.flatMap_append, List.append_assoc]
        simp
      have hpl := pre_len hgg i
      rw [hs1]
      unfold clKn at *
      generalize atomsF (flattenF cs[i].b z) = lb at *
      generalize atomsF (flattenF cs[i].a z) = la at *
      generalize flattenF cs[i].b z = fb at *
      generalize flattenF cs[i].a z = fa at *
      generalize (clZ z 1 ++ (cs.take i).flatMap _) = pre at *
      simp +contextual (disch := omega) [Nat.add_assoc, Int.add_assoc, if_pos, if_neg, -Int.not_lt, -Int.not_le, -Nat.not_lt, -Nat.not_le, -List.length_flatMap, ref12_clauses.b3, g0, g1, g7, hi, ansK hFa, ansK hFb, ansK hA]
      refine for_w (fun k e m' x' => e 0 = sV cK cs ∧ e 1 = sV cB z ∧ e 7 = .i .i64 i ∧ e 10 = .p (x + 25) 0 ∧ e 12 = sV cA la ∧ e 13 = .i .i64 k ∧ x + 26 ≤ x' ∧ m' (x + 25) = some (.cells (cF fb) false) ∧ ∃ fs, Xa (fun j => j < x' ∧ j ≠ x + 25) m' (e 5) (midK pre lb la k) fs) la.length ?_ ?_ ?_
      · rw [midK_0]
        simp +contextual (disch := omega) [Nat.add_assoc, Int.add_assoc, if_pos, if_neg, -Int.not_lt, -Int.not_le, -Nat.not_lt, -Nat.not_le, -List.length_flatMap, g0, g1, g7]
        exact ⟨fs, gX.up (fun j hj => by simp +contextual (disch := omega) [Nat.add_assoc, Int.add_assoc, if_pos, if_neg, -Int.not_lt, -Int.not_le, -Nat.not_lt, -Nat.not_le, -List.length_flatMap]) (fun j hj => by omega)⟩
      · rintro k e m' x' hk ⟨g0, g1, g7, g10, g12, g13, gx, gm, fs, gX⟩
        rw [midK_s hk]
        have hml : (midK pre lb la k).length ≤ 60 := by simp [midK]; omega
        generalize midK pre lb la k = pk at *
        have hst := gX.rc.stor
        have hsc := gX.rc.cells
        generalize hV : e 5 = V5 at *
        simp +contextual (disch := omega) [Nat.add_assoc, Int.add_assoc, if_pos, if_neg, -Int.not_lt, -Int.not_le, -Nat.not_lt, -Nat.not_le, -List.length_flatMap, ref12_clauses.b2, g0, g1, g7, g10, g12, g13, hV, gm, hk, ansK hB, hst, hsc, -apV_ns]
        generalize hN : Sto.set m' (x' + 11) _ = N
        have n0 : ∀ q, q < x' + 11 → N q = m' q := fun q hq => by rw [← hN]; simp +contextual (disch := omega) [Nat.add_assoc, Int.add_assoc, if_pos, if_neg, -Int.not_lt, -Int.not_le, -Nat.not_lt, -Nat.not_le, -List.length_flatMap]
        clear hN
        have gX2 := gX.up (m' := N) (A' := fun j => j < x' ∧ j ≠ x + 25) (fun j hj => n0 j (by omega)) (fun j hj => hj)
        refine gX2.ap (dl := [⟨lb, la[k]⟩]) (gs := [sV cA lb]) (G := fun _ => False) rfl rfl ⟨Rl.sV _ _ _, trivial⟩ (fun _ _ h => h) (by omega) (fun h => h) (by simp; omega) ?_
        intro B' ws N2 z0 z1 z2
        have r25 : N2 (x + 25) = some (.cells (cF fb) false) := by rw [z2 _ (by omega) (by omega), n0 _ (by omega), gm]
        simp +contextual (disch := omega) [Nat.add_assoc, Int.add_assoc, if_pos, if_neg, -Int.not_lt, -Int.not_le, -Nat.not_lt, -Nat.not_le, -List.length_flatMap, z0, g0, g1, g7, g10, g12, g13, r25]
        refine ⟨by omega, _, z1.up (fun _ _ => rfl) (fun j hj => ?_)⟩
        rcases hj with h | h | h
        · omega
        · exact h.elim
        · omega
      · rintro e m' x' ⟨g0, g1, g7, g10, g12, g13, gx, gm, fs, gX⟩
        rw [midK_e] at gX
        simp +contextual (disch := omega) [Nat.add_assoc, Int.add_assoc, if_pos, if_neg, -Int.not_lt, -Int.not_le, -Nat.not_lt, -Nat.not_le, -List.length_flatMap, ref12_clauses.b2, g0, g1, g7, g10, g12, g13]
        exact ⟨fs, gX.up (fun _ _ => rfl) (fun j hj => by omega)⟩
    · rintro e m x ⟨g0, g1, g7, fs, gX⟩
      rw [List.take_length] at gX
      obtain ⟨ids, hz, _⟩ := gX.rc.fz24
      have e1 : clZ z 1 ++ cs.flatMap (clKn z) = clU cs z := rfl
      rw [e1] at hz
      generalize hV : e 5 = V5 at *
      simp +contextual (disch := omega) [Nat.add_assoc, Int.add_assoc, if_pos, if_neg, -Int.not_lt, -Int.not_le, -Nat.not_lt, -Nat.not_le, -List.length_flatMap, ref12_clauses.b3, g0, g1, g7, hV, hz]
theorem valsZ_s {M : List Int} {z : List Bool} {i : Nat} (hi : i < z.length) : (valsZ M z).take (i + 1) = (valsZ M z).take i ++ [if z[i] = true then 0 else M.getD 0 0 - M.getD (i + 1) 0] := by
  have hl : i < (valsZ M z).length := by simp [valsZ, hi]
  rw [List.take_succ_eq_append_getElem hl]
  simp [valsZ, hi]
theorem valsZ_len (M : List Int) (z : List Bool) : (valsZ M z).length = z.length := by simp [valsZ]
theorem ref12_values.a {M : List Int} {z : List Bool} (hz5 : z.length ≤ 5) (hml : M.length = z.length + 1) (hmb : ∀ i, 0 ≤ M.getD i 0 ∧ M.getD i 0 ≤ 1000000) : Ans ctx ref12_values.n [sV cI M, sV cB z] (sV cI (valsZ M z)) := by
  refine ans ref12_values.f ?_
  simp +contextual (disch := omega) [Nat.add_assoc, Int.add_assoc, if_pos, if_neg, -Int.not_lt, -Int.not_le, -Nat.not_lt, -Nat.not_le, -List.length_flatMap, ref12_values.c]
  refine for_w (fun i e m x => e 0 = sV cI M ∧ e 1 = sV cB z ∧ e 6 = .i .i64 i ∧ Bf m (e 5) cI 1 ((valsZ M z).take i) 0 x) z.length ?_ ?_ ?_
  · simp +contextual (disch := omega) [Nat.add_assoc, Int.add_assoc, if_pos, if_neg, -Int.not_lt, -Int.not_le, -Nat.not_lt, -Nat.not_le, -List.length_flatMap]
    exact Bf.nil
  · rintro i e m x hi ⟨g0, g1, g6, gB⟩
    have b0 := hmb 0
    have b1 := hmb (i + 1)
    have h0 : ∀ h, M[0]'h = M.getD 0 0 := fun h => by simp [h]
    have h1 : ∀ h, M[i + 1]'h = M.getD (i + 1) 0 := fun h => by simp [h]
    have hM0 : 0 < M.length := by omega
    have hMi : i + 1 < M.length := by omega
    have hs := valsZ_s (M := M) hi
    have hln : ((valsZ M z).take i).length ≤ 5 := by rw [List.length_take, valsZ_len]; omega
    generalize M.getD 0 0 = u at *
    generalize M.getD (i + 1) 0 = v at *
    have hst := gB.stor
    have hsc := gB.cells
    generalize hB : e 5 = B at *
    rw [hs]
    cases hzi : z[i] with
    | true =>
      rw [if_pos rfl]
      simp +contextual (disch := omega) [Nat.add_assoc, Int.add_assoc, if_pos, if_neg, -Int.not_lt, -Int.not_le, -Nat.not_lt, -Nat.not_le, -List.length_flatMap, ref12_values.b1, g0, g1, g6, hB, hi, hzi, hM0, hMi, h0, h1, hst, hsc, -apV_ns]
      refine gB.ap [0] (fun j h1 h2 => by simp +contextual (disch := omega) [Nat.add_assoc, Int.add_assoc, if_pos, if_neg, -Int.not_lt, -Int.not_le, -Nat.not_lt, -Nat.not_le, -List.length_flatMap]) (by omega) (by omega) rfl rfl (by simp; omega) ?_
      intro B' ws m2 z0 z1 z2 z3
      simp +contextual (disch := omega) [Nat.add_assoc, Int.add_assoc, if_pos, if_neg, -Int.not_lt, -Int.not_le, -Nat.not_lt, -Nat.not_le, -List.length_flatMap, z0, g0, g1, g6, z1.stor, z1.cells]
      exact z1.to (by simp) (by omega)
    | false =>
      rw [if_neg (by simp)]
      simp +contextual (disch := omega) [Nat.add_assoc, Int.add_assoc, if_pos, if_neg, -Int.not_lt, -Int.not_le, -Nat.not_lt, -Nat.not_le, -List.length_flatMap, ref12_values.b1, g0, g1, g6, hB, hi, hzi, hM0, hMi, h0, h1, hst, hsc, -apV_ns]
      refine gB.ap [u - v] (fun j h1 h2 => by simp +contextual (disch := omega) [Nat.add_assoc, Int.add_assoc, if_pos, if_neg, -Int.not_lt, -Int.not_le, -Nat.not_lt, -Nat.not_le, -List.length_flatMap]) (by omega) (by omega) rfl rfl (by simp; omega) ?_
      intro B' ws m2 z0 z1 z2 z3
      simp +contextual (disch := omega) [Nat.add_assoc, Int.add_assoc, if_pos, if_neg, -Int.not_lt, -Int.not_le, -Nat.not_lt, -Nat.not_le, -List.length_flatMap, z0, g0, g1, g6, z1.stor, z1.cells]
      exact z1.to (by simp) (by omega)
  · rintro e m x ⟨g0, g1, g6, gB⟩
    rw [List.take_of_length_le (by rw [valsZ_len]; exact Nat.le_refl _)] at gB
    have hz := gB.fz24
    generalize hB : e 5 = B at *
    simp +contextual (disch := omega) [Nat.add_assoc, Int.add_assoc, if_pos, if_neg, -Int.not_lt, -Int.not_le, -Nat.not_lt, -Nat.not_le, -List.length_flatMap, ref12_values.b1, g0, g1, g6, hB, hz]
set_option maxRecDepth 20000 in
set_option maxHeartbeats 2000000 in
theorem ref12_against.a {z : List Bool} (hz5 : z.length ≤ 5) (l : List C) (hl : l.length ≤ 100) (hlf : ∀ c ∈ l, c.frm.length ≤ 100) (u : A) (lb : List A) (hlb : lb.length ≤ 10) (hbd : ∀ t ∈ lb, 0 ≤ t.off ∧ t.off ≤ 12) :
    Ans ctx ref12_against.n [sV cC l, .ag (cA u), sV cA lb, sV cB z] (valsV z (l ++ moreU u lb)) := by
  obtain ⟨W, hW⟩ : ∃ W, W = valsV z (l ++ moreU u lb) := ⟨_, rfl⟩
  rw [← hW]
  refine ans ref12_against.f ?_
  simp +contextual (disch := omega) [Nat.add_assoc, Int.add_assoc, if_pos, if_neg, -Int.not_lt, -Int.not_le, -Nat.not_lt, -Nat.not_le, -List.length_flatMap, ref12_against.c, -apV_ns]
  refine (Xc.nil (m := Sto.set (fun _ => none) 0 (some (.cells (cA u) false))) (lo := 1) (x := 1)).ap (dl := l) (gs := l.map fun c => sV cA c.frm) (lo := 1) (fun j _ _ => rfl) (by omega) (by omega) (by omega) (trips_sv l).symm rfl (Fr.sv _ _ l) (by simp; omega) ?_
  intro B0 ws0 m0 y0 y1 y2 y3
  rw [List.nil_append] at y1
  have r0 : m0 0 = some (.cells (cA u) false) := by rw [y2 0 (by omega)]; simp +contextual (disch := omega) [Nat.add_assoc, Int.add_assoc, if_pos, if_neg, -Int.not_lt, -Int.not_le, -Nat.not_lt, -Nat.not_le, -List.length_flatMap]
  simp +contextual (disch := omega) [Nat.add_assoc, Int.add_assoc, if_pos, if_neg, -Int.not_lt, -Int.not_le, -Nat.not_lt, -Nat.not_le, -List.length_flatMap, y0]
  refine for_w (fun j e m x => e 2 = sV cA lb ∧ e 3 = sV cB z ∧ e 5 = .p 0 0 ∧ e 11 = .i .i64 j ∧ 1 ≤ x ∧ m 0 = some (.cells (cA u) false) ∧ ∃ fs, Xc m (e 10) (l ++ moreU u (lb.take j)) fs 1 x) lb.length ?_ ?_ ?_
  · have e0 : moreU u [] = [] := rfl
    simp +contextual (disch := omega) [Nat.add_assoc, Int.add_assoc, if_pos, if_neg, -Int.not_lt, -Int.not_le, -Nat.not_lt, -Nat.not_le, -List.length_flatMap, e0]
    exact ⟨r0, _, y1.up (Nat.le_refl _) (by omega) (fun _ _ _ => rfl)⟩
  · rintro j e m x hj ⟨g2, g3, g5, g11, gx, gm, fs, gX⟩
    have hs1 := moreU_s u lb hj
    have hln := moreU_len u (lb.take j)
    rw [List.length_take] at hln
    have hst8 := gX.rc.stor
    have hsc8 := gX.rc.cells
    rw [hs1, ← List.append_assoc]
    have bj := hbd _ (List.getElem_mem hj)
    have hpl : (l ++ moreU u (lb.take j)).length ≤ 110 := by rw [List.length_append]; omega
    generalize hV8 : e 10 = V8 at *
    generalize l ++ moreU u (lb.take j) = pre at *
    simp +contextual (disch := omega) [Nat.add_assoc, Int.add_assoc, if_pos, if_neg, -Int.not_lt, -Int.not_le, -Nat.not_lt, -Nat.not_le, -List.length_flatMap, ref12_against.b1, g2, g3, g5, g11, gm, hj, hV8, hst8, hsc8, -apV_ns]
    generalize hN : Sto.set (Sto.set m (x + 6) _) (x + 20) _ = N
    have n0 : ∀ q, q < x → N q = m q := fun q hq => by rw [← hN]; simp +contextual (disch := omega) [Nat.add_assoc, Int.add_assoc, if_pos, if_neg, -Int.not_lt, -Int.not_le, -Nat.not_lt, -Nat.not_le, -List.length_flatMap]
    have n7 : N (x + 6) = some (.cells (cA u) false) := by rw [← hN]; simp +contextual (disch := omega) [Nat.add_assoc, Int.add_assoc, if_pos, if_neg, -Int.not_lt, -Int.not_le, -Nat.not_lt, -Nat.not_le, -List.length_flatMap]
    clear hN
    have hF : Bf N (.ms (x + 6) 0 1 2) cA 2 [u] (x + 6) (x + 7) := Bf.mem n7 (by simp) rfl (by omega) (by omega)
    refine gX.ap (dl := [⟨[u], ⟨lb[j].var, lb[j].off + 1⟩⟩]) (gs := [.ms (x + 6) 0 1 2]) (lo := 1) (fun q h1 h2 => n0 q (by omega)) (by omega) (by omega) (by omega) rfl rfl ⟨(Rl.Bf hF).mono (fun q hq => by omega), trivial⟩ (by simp; omega) ?_
    intro B' ws N2 z0 z1 z2 z3
    have r1 : N2 0 = some (.cells (cA u) false) := by rw [z2 0 (by omega), n0 0 (by omega), gm]
    simp +contextual (disch := omega) [Nat.add_assoc, Int.add_assoc, if_pos, if_neg, -Int.not_lt, -Int.not_le, -Nat.not_lt, -Nat.not_le, -List.length_flatMap, z0, g2, g3, g5, g11, r1]
    exact ⟨_, z1.up (Nat.le_refl _) (by omega) (fun _ _ _ => rfl)⟩
  · rintro e m x ⟨g2, g3, g5, g11, gx, gm, fs, gX⟩
    rw [List.take_length] at gX
    have hln := moreU_len u lb
    obtain ⟨L, hL⟩ : ∃ L, L = l ++ moreU u lb := ⟨_, rfl⟩
    rw [← hL] at gX hW
    obtain ⟨k, er, hsv⟩ := solveV_U z L
    have hS := ref09_Solve.a (z.length + 1 : Nat) L (by rw [hL, List.length_append]; omega) (fun c hc => by
      rw [hL] at hc
      rcases List.mem_append.1 hc with h | h
      · have := hlf c h; omega
      · obtain ⟨t, _, rfl⟩ := List.mem_map.1 h
        simp)
    rw [hsv] at hS
    obtain ⟨ids, hz, hids⟩ := gX.rc.fz24
    have hcz : ((z.length : Int) + 1) = ((z.length + 1 : Nat) : Int) := by omega
    have hmb := model_bd hz5 (l := L)
    have hok : okU z L = true → rightC (z.length + 1 : Nat) L = true := fun h => by unfold okU at h; simp only [Bool.and_eq_true] at h; exact h.1
    unfold valsV valsU at hW
    have hst8 := gX.rc.stor
    have hsc8 := gX.rc.cells
    generalize hV8 : e 10 = V8 at *
    cases hk : okU z L with
    | false =>
      rw [hk, ← hcz] at hS
      rw [hk, if_neg (by simp)] at hW
      simp +contextual (disch := omega) [Nat.add_assoc, Int.add_assoc, if_pos, if_neg, -Int.not_lt, -Int.not_le, -Nat.not_lt, -Nat.not_le, -List.length_flatMap, ref12_against.b1, g2, g3, g5, g11, hV8, hz, ansK hS, hW]
    | true =>
      obtain ⟨hml, hmb⟩ := hmb hk
      rw [hk, if_pos (hok hk), ← hcz] at hS
      rw [hk, if_pos rfl] at hW
      have hVa := ref12_values.a hz5 hml hmb
      generalize (solveC (z.length + 1) L).1 = M at *
      simp +contextual (disch := omega) [Nat.add_assoc, Int.add_assoc, if_pos, if_neg, -Int.not_lt, -Int.not_le, -Nat.not_lt, -Nat.not_le, -List.length_flatMap, ref12_against.b1, g2, g3, g5, g11, hV8, hz, ansK hS, ansK hVa, hW]
end Pi


set_option linter.unusedSimpArgs false
set_option linter.unusedVariables false
namespace Pi
end Pi


set_option linter.unusedSimpArgs false
set_option linter.unusedVariables false
namespace Pi
theorem firstU_at {f : Nat → Option (List Int)} {k N : Nat} {v : List Int} (h : firstU f k = none) (hv : f k = some v) (hk : k < N) : firstU f N = some v := firstU_none h N (by omega) v hv hk
set_option maxRecDepth 20000 in
set_option maxHeartbeats 2000000 in
theorem ref12_Possible.a (cs : List Kn) (hc : ∀ c ∈ cs, c.Ok) (hl : cs.length ≤ 9223372036854775807) (p : Int) : Ans ctx ref12_Possible.n [sV cK cs, .i .i64 p] (possV cs p) := by
  refine ans ref12_Possible.f ?_
  have hR := ref12_Right.a cs hc hl p
  obtain ⟨W, hW⟩ : ∃ W, W = possV cs p := ⟨_, rfl⟩
  rw [← hW]
  unfold possV at hW
  cases hr : RightU cs p with
  | false =>
    rw [hr] at hR
    rw [hr, if_neg (by simp)] at hW
    simp +contextual (disch := omega) [Nat.add_assoc, Int.add_assoc, if_pos, if_neg, -Int.not_lt, -Int.not_le, -Nat.not_lt, -Nat.not_le, -List.length_flatMap, ref12_Possible.c, ansK hR, hW]
  | true =>
    rw [hr] at hR
    rw [hr, if_pos rfl] at hW
    obtain ⟨n, rfl, hn, hg⟩ := RightU_ok hr hc
    have hnn : ((n : Int)).toNat = n := by omega
    rw [hnn] at hW
    have hsh := (shl1 hn).2
    have h32 := pow32 hn
    simp +contextual (disch := omega) [Nat.add_assoc, Int.add_assoc, if_pos, if_neg, -Int.not_lt, -Int.not_le, -Nat.not_lt, -Nat.not_le, -List.length_flatMap, ref12_Possible.c, ansK hR]
    unfold possU at hW
    obtain ⟨N, hN⟩ : ∃ N : Nat, N = 2 ^ n := ⟨_, rfl⟩
    rw [← hN] at hsh h32 hW
    refine for_w (fun k e m x => e 0 = sV cK cs ∧ e 1 = .i .i64 n ∧ e 7 = .i .i64 k ∧ firstU (possAt cs n) k = none) N ?_ ?_ ?_
    · simp +contextual (disch := omega) [Nat.add_assoc, Int.add_assoc, if_pos, if_neg, -Int.not_lt, -Int.not_le, -Nat.not_lt, -Nat.not_le, -List.length_flatMap]
      rfl
    · rintro k e m x hk ⟨g0, g1, g7, gn⟩
      have hCa := ref07_Case.a k n (by omega) hn
      have hgk := hg (caseP k n) (caseP_len k n)
      have hCl := ref12_clauses.a hgk
      obtain ⟨kk, er, hsv⟩ := solveV_U (caseP k n) (clU cs (caseP k n))
      have hcl := pre_len hgk cs.length
      rw [List.take_length] at hcl
      have hcl2 : (clU cs (caseP k n)).length ≤ 53 := hcl
      have hS := ref09_Solve.a ((caseP k n).length + 1 : Nat) (clU cs (caseP k n)) (by omega) (fun c hc => by have := clU_frm hgk c hc; omega)
      rw [hsv, caseP_len] at hS
      have hcz : ((n : Int) + 1) = ((n + 1 : Nat) : Int) := by omega
      have hmb := model_bd (z := caseP k n) (by rw [caseP_len]; exact hn) (l := clU cs (caseP k n))
      have hok : okU (caseP k n) (clU cs (caseP k n)) = true → rightC (n + 1 : Nat) (clU cs (caseP k n)) = true := fun h => by unfold okU at h; simp only [Bool.and_eq_true, caseP_len] at h; exact h.1
      have hpo : possAt cs n k = if okU (caseP k n) (clU cs (caseP k n)) = true then some (valsU (caseP k n) (clU cs (caseP k n))) else none := rfl
      unfold valsU at hpo
      rw [caseP_len] at hmb hpo
      cases hk2 : okU (caseP k n) (clU cs (caseP k n)) with
      | false =>
        rw [hk2, ← hcz] at hS
        rw [hk2, if_neg (by simp)] at hpo
        simp +contextual (disch := omega) [Nat.add_assoc, Int.add_assoc, if_pos, if_neg, -Int.not_lt, -Int.not_le, -Nat.not_lt, -Nat.not_le, -List.length_flatMap, ref12_Possible.b1, g0, g1, g7, hk, hsh, ansK hCa, ansK hCl, ansK hS]
        rw [firstU_s, gn, hpo]
        rfl
      | true =>
        obtain ⟨hml, hmb⟩ := hmb hk2
        rw [hk2, if_pos (hok hk2), ← hcz] at hS
        rw [hk2, if_pos rfl, if_pos rfl] at hpo
        have hVa := ref12_values.a (z := caseP k n) (by rw [caseP_len]; exact hn) (by rw [caseP_len]; exact hml) hmb
        rw [firstU_at gn hpo hk] at hW
        generalize (solveC (n + 1) (clU cs (caseP k n))).1 = M at *
        simp +contextual (disch := omega) [Nat.add_assoc, Int.add_assoc, if_pos, if_neg, -Int.not_lt, -Int.not_le, -Nat.not_lt, -Nat.not_le, -List.length_flatMap, ref12_Possible.b1, g0, g1, g7, hk, hsh, ansK hCa, ansK hCl, ansK hS, ansK hVa, hW]
    · rintro e m x ⟨g0, g1, g7, gn⟩
      rw [gn] at hW
      simp +contextual (disch := omega) [Nat.add_assoc, Int.add_assoc, if_pos, if_neg, -Int.not_lt, -Int.not_le, -Nat.not_lt, -Nat.not_le, -List.length_flatMap, ref12_Possible.b1, g0, g1, g7, hsh, hW]
set_option maxRecDepth 20000 in
set_option maxHeartbeats 2000000 in
theorem ref12_Leq.a (cs : List Kn) (hc : ∀ c ∈ cs, c.Ok) (hl : cs.length ≤ 9223372036854775807) (p : Int) (a b : L) (oka : a.Ok) (okb : b.Ok) : Ans ctx ref12_Leq.n [sV cK cs, .i .i64 p, .ag (cL a), .ag (cL b)] (leqUV cs p a b) := by
  refine ans ref12_Leq.f ?_
  have hR := ref12_Right.a cs hc hl p
  have hA := ref02_Right.a a oka p 0
  have hB := ref02_Right.a b okb p 0
  obtain ⟨W, hW⟩ : ∃ W, W = leqUV cs p a b := ⟨_, rfl⟩
  rw [← hW]
  unfold leqUV at hW
  cases hr : RightU cs p with
  | false =>
    rw [hr] at hR
    rw [if_neg (by rw [hr]; simp)] at hW
    simp +contextual (disch := omega) [Nat.add_assoc, Int.add_assoc, if_pos, if_neg, -Int.not_lt, -Int.not_le, -Nat.not_lt, -Nat.not_le, -List.length_flatMap, ref12_Leq.c, ansK hR, hW]
  | true =>
    rw [hr] at hR
    cases h1 : RightS a p 0 with
    | false =>
      rw [h1] at hA
      rw [if_neg (by rw [h1]; simp)] at hW
      simp +contextual (disch := omega) [Nat.add_assoc, Int.add_assoc, if_pos, if_neg, -Int.not_lt, -Int.not_le, -Nat.not_lt, -Nat.not_le, -List.length_flatMap, ref12_Leq.c, ansK hR, ansK hA, hW]
    | true =>
      rw [h1] at hA
      cases h2 : RightS b p 0 with
      | false =>
        rw [h2] at hB
        rw [if_neg (by rw [h2]; simp)] at hW
        simp +contextual (disch := omega) [Nat.add_assoc, Int.add_assoc, if_pos, if_neg, -Int.not_lt, -Int.not_le, -Nat.not_lt, -Nat.not_le, -List.length_flatMap, ref12_Leq.c, ansK hR, ansK hA, ansK hB, hW]
      | true =>
        rw [h2] at hB
        rw [if_pos ⟨hr, h1, h2⟩] at hW
        obtain ⟨n, rfl, hn, hg⟩ := RightU_ok hr hc
        have hnn : ((n : Int)).toNat = n := by omega
        rw [hnn] at hW
        have hsh := (shl1 hn).2
        have h32 := pow32 hn
        simp +contextual (disch := omega) [Nat.add_assoc, Int.add_assoc, if_pos, if_neg, -Int.not_lt, -Int.not_le, -Nat.not_lt, -Nat.not_le, -List.length_flatMap, ref12_Leq.c, ansK hR, ansK hA, ansK hB]
        unfold leqU at hW
        obtain ⟨N, hN⟩ : ∃ N : Nat, N = 2 ^ n := ⟨_, rfl⟩
        rw [← hN] at hsh h32 hW
        refine for_w (fun k e m x => e 0 = sV cK cs ∧ e 1 = .i .i64 n ∧ e 6 = .p 0 0 ∧ e 7 = .p 1 0 ∧ e 11 = .i .i64 k ∧ 2 ≤ x ∧ m 0 = some (.cells (cL a) false) ∧ m 1 = some (.cells (cL b) false) ∧ firstU (fun k => leqAtU cs a b (caseP k n)) k = none) N ?_ ?_ ?_
        · simp +contextual (disch := omega) [Nat.add_assoc, Int.add_assoc, if_pos, if_neg, -Int.not_lt, -Int.not_le, -Nat.not_lt, -Nat.not_le, -List.length_flatMap]
          rfl
        · rintro k e m x hk ⟨g0, g1, g6, g7, g11, gx, gm0, gm1, gn⟩
          have hCa := ref07_Case.a k n (by omega) hn
          have hzl := caseP_len k n
          have hgk := hg (caseP k n) hzl
          have hCl := ref12_clauses.a hgk
          have hra : RightS a (caseP k n).length 0 = true := by rw [hzl]; exact h1
          have hrb : RightS b (caseP k n).length 0 = true := by rw [hzl]; exact h2
          have hFa := ref06_Flatten.a a oka (caseP k n) (by omega)
          have hFb := ref06_Flatten.a b okb (caseP k n) (by omega)
          rw [flatten_ok rfl hra] at hFa
          rw [flatten_ok rfl hrb] at hFb
          have hlfa := flattenF_len hra
          have hlfb := flattenF_len hrb
          have hAa := ref12_Atoms.a (flattenF a (caseP k n)) (by omega)
          have hAb := ref12_Atoms.a (flattenF b (caseP k n)) (by omega)
          have hlb : (atomsF (flattenF b (caseP k n))).length ≤ 6 := by have := atomsF_len (flattenF b (caseP k n)); omega
          have hla : (atomsF (flattenF a (caseP k n))).length ≤ 6 := by have := atomsF_len (flattenF a (caseP k n)); omega
          have hbd := atomsF_bd hrb
          have hcl := pre_len hgk cs.length
          rw [List.take_length] at hcl
          have hcl2 : (clU cs (caseP k n)).length ≤ 53 := hcl
          have hcf := clU_frm hgk
          have hfs := firstU_s (fun k => leqAtU cs a b (caseP k n)) k
          have hfa := fun v h => firstU_at (v := v) gn h hk
          rw [gn] at hfs
          have hle : leqAtU cs a b (caseP k n) = (atomsF (flattenF a (caseP k n))).findSome? fun x => valO (caseP k n) (clU cs (caseP k n) ++ moreU x (atomsF (flattenF b (caseP k n)))) := rfl
          simp only [hle] at hfs hfa
          have hag := fun u => ref12_against.a (z := caseP k n) (by omega) (clU cs (caseP k n)) (by omega) (fun c h => by have := hcf c h; omega) u (atomsF (flattenF b (caseP k n))) (by omega) (fun t h => ⟨(hbd t h).2.2.1, (hbd t h).2.2.2⟩)
          unfold valsV at hag
          obtain ⟨g, hgd⟩ : ∃ g : A → Option (List Int), g = fun u => valO (caseP k n) (clU cs (caseP k n) ++ moreU u (atomsF (flattenF b (caseP k n)))) := ⟨_, rfl⟩
          have hgo : ∀ u, okU (caseP k n) (clU cs (caseP k n) ++ moreU u (atomsF (flattenF b (caseP k n)))) = (g u).isSome ∧ valsU (caseP k n) (clU cs (caseP k n) ++ moreU u (atomsF (flattenF b (caseP k n)))) = (g u).getD [] := fun u => by rw [hgd]; exact ⟨(valO_some _ _).symm, (valO_get _ _).symm⟩
          simp only [hgo] at hag
          rw [← hgd] at hfs hfa
          clear hgd hgo hle
          generalize atomsF (flattenF b (caseP k n)) = lb at *
          generalize atomsF (flattenF a (caseP k n)) = la at *
          generalize flattenF b (caseP k n) = fb at *
          generalize flattenF a (caseP k n) = fa at *
          generalize clU cs (caseP k n) = cl at *
          generalize caseP k n = z at *
          simp +contextual (disch := omega) [Nat.add_assoc, Int.add_assoc, if_pos, if_neg, -Int.not_lt, -Int.not_le, -Nat.not_lt, -Nat.not_le, -List.length_flatMap, ref12_Leq.b2, g0, g1, g6, g7, g11, gm0, gm1, hk, hsh, ansK hCa, ansK hFa, ansK hFb, ansK hAa, ansK hCl]
          refine for_w (fun i e m' x' => e 0 = sV cK cs ∧ e 1 = .i .i64 n ∧ e 6 = .p 0 0 ∧ e 7 = .p 1 0 ∧ e 11 = .i .i64 k ∧ e 12 = sV cB z ∧ e 15 = .p (x + 20) 0 ∧ e 17 = sV cA la ∧ e 18 = sV cC cl ∧ e 19 = .i .i64 i ∧ x + 21 ≤ x' ∧ m' 0 = some (.cells (cL a) false) ∧ m' 1 = some (.cells (cL b) false) ∧ m' (x + 20) = some (.cells (cF fb) false) ∧ ∀ u ∈ la.take i, g u = none) la.length ?_ ?_ ?_
          · simp +contextual (disch := omega) [Nat.add_assoc, Int.add_assoc, if_pos, if_neg, -Int.not_lt, -Int.not_le, -Nat.not_lt, -Nat.not_le, -List.length_flatMap, g0, g1, g6, g7, g11, gm0, gm1]
          · rintro i e m' x' hi ⟨g0, g1, g6, g7, g11, g12, g15, g17, g18, g19, gx', gm0, gm1, gm2, gl⟩
            have hag1 := hag la[i]
            cases hgi : g la[i] with
            | none =>
              rw [hgi] at hag1
              simp +contextual (disch := omega) [Nat.add_assoc, Int.add_assoc, if_pos, if_neg, -Int.not_lt, -Int.not_le, -Nat.not_lt, -Nat.not_le, -List.length_flatMap, ref12_Leq.b1, g0, g1, g6, g7, g11, g12, g15, g17, g18, g19, gm2, hi, ansK hAb, ansK hag1]
              refine ⟨by omega, gm0, gm1, fun u hu => ?_⟩
              rw [List.take_succ_eq_append_getElem hi, List.mem_append, List.mem_singleton] at hu
              rcases hu with h | rfl
              · exact gl u h
              · exact hgi
            | some v =>
              rw [hgi] at hag1
              have := hfa v (findSome_at hi gl hgi)
              simp +contextual (disch := omega) [Nat.add_assoc, Int.add_assoc, if_pos, if_neg, -Int.not_lt, -Int.not_le, -Nat.not_lt, -Nat.not_le, -List.length_flatMap, ref12_Leq.b1, g0, g1, g6, g7, g11, g12, g15, g17, g18, g19, gm2, hi, ansK hAb, ansK hag1]
              rw [this] at hW
              exact hW.symm
          · rintro e m' x' ⟨g0, g1, g6, g7, g11, g12, g15, g17, g18, g19, gx', gm0, gm1, gm2, gl⟩
            rw [List.take_length] at gl
            rw [List.findSome?_eq_none_iff.2 gl] at hfs
            simp +contextual (disch := omega) [Nat.add_assoc, Int.add_assoc, if_pos, if_neg, -Int.not_lt, -Int.not_le, -Nat.not_lt, -Nat.not_le, -List.length_flatMap, ref12_Leq.b1, g0, g1, g6, g7, g11, g12, g15, g17, g18, g19, gm0, gm1]
            exact hfs
        · rintro e m x ⟨g0, g1, g6, g7, g11, gx, gm0, gm1, gn⟩
          rw [gn] at hW
          simp +contextual (disch := omega) [Nat.add_assoc, Int.add_assoc, if_pos, if_neg, -Int.not_lt, -Int.not_le, -Nat.not_lt, -Nat.not_le, -List.length_flatMap, ref12_Leq.b2, g0, g1, g6, g7, g11, hsh, hW]
end Pi

