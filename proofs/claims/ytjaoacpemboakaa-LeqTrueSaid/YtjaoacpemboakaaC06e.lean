/- Contracts: flats (layer 6): Flatten, and the document's. -/
import Derived.Test.YtjaoacpemboakaaC06d
set_option linter.unusedSimpArgs false
set_option linter.unusedVariables false
namespace Pi
def flattenF (l : L) (zero : List Bool) : F := if topF (ofS l zero) ≠ -1 ∧ (ofS l zero).cst ≤ topF (ofS l zero) + 1 then ⟨0, (ofS l zero).offs⟩ else ofS l zero
def flattenV (l : L) (zero : List Bool) : V := if RightS l zero.length 0 = true then .tu [.ag (cF (flattenF l zero)), .i .i64 0] else .tu [.ag (cF ⟨0, []⟩), .i .i64 1]
theorem RightS_ok {l : L} {p q : Nat} (h : RightS l p q = true) : p ≤ 5 ∧ rightS l p q 12 = true := by
  unfold RightS at h
  split at h
  · cases h
  · simp only [Bool.and_eq_true] at h
    exact ⟨by omega, h.2⟩
theorem flat_Flatten.a (l : L) (ok : l.Ok) (zero : List Bool) (hz : zero.length ≤ 1000000) : Ans ctx flat_Flatten.n [.ag (cL l), sV cB zero] (flattenV l zero) := by
  refine ans flat_Flatten.f ?_
  have hR := level_Right.a l ok zero.length 0
  unfold flattenV
  cases h1 : RightS l zero.length 0 with
  | false =>
    rw [h1] at hR
    simp +contextual (disch := omega) [Nat.add_assoc, Int.add_assoc, if_pos, if_neg, -Int.not_lt, -Int.not_le, -Nat.not_lt, -Nat.not_le, -List.length_flatMap, flat_Flatten.c, ansK hR]
    rfl
  | true =>
    rw [h1] at hR
    obtain ⟨hp, hr⟩ := RightS_ok (q := 0) h1
    have hbd := ofS_bd l zero 12 hr
    simp +contextual (disch := omega) [Nat.add_assoc, Int.add_assoc, if_pos, if_neg, -Int.not_lt, -Int.not_le, -Nat.not_lt, -Nat.not_le, -List.length_flatMap, flat_Flatten.c, ansK hR]
    rw [CallX_op (by rfl)]
    refine openg_w rfl rfl (.inl rfl) ?_
    have hfo : ctx.frz flat_of.n = false := rfl
    rw [hfo]
    refine flat_of.w l ok zero 12 hp (by omega) hr ?_
    intro B m1 x1 hx1 hm1 hB ho
    have y1 : m1 1 = some (.cells [.i .i64 0, .ns] false) := by rw [hm1 1 (by omega)]; simp +contextual (disch := omega) [Nat.add_assoc, Int.add_assoc, if_pos, if_neg, -Int.not_lt, -Int.not_le, -Nat.not_lt, -Nat.not_le, -List.length_flatMap]
    have hst := hB.stor
    have hT := flat_Top.a (ofS l zero) (by rw [hbd.1]; omega)
    have hbt : -1 ≤ topF (ofS l zero) ∧ topF (ofS l zero) ≤ 11 := ⟨fmax_ge _ _, fmax_le _ _ _ (by omega) (fun a ha => (hbd.2.2 a ha).2)⟩
    have hcF : V.ag [.i .i64 (ofS l zero).cst, sV cI (ofS l zero).offs] = .ag (cF (ofS l zero)) := rfl
    have hEM := (hB.up (m' := (m1.set x1 (some (.cells [.i .i64 0, .ns] false))).set x1 (some (.cells [.i .i64 (ofS l zero).cst, B] false))) (Nat.le_refl _) (Nat.le_refl _) (fun j h1 h2 => by simp +contextual (disch := omega) [Nat.add_assoc, Int.add_assoc, if_pos, if_neg, -Int.not_lt, -Int.not_le, -Nat.not_lt, -Nat.not_le, -List.length_flatMap])).bf.fz24
    have hBz : ∀ M' : Sto, (∀ j, 6 ≤ j → j < x1 → M' j = m1 j) → frzW (der M' 24) B = some (sV cI (ofS l zero).offs, refOf B) := fun M' h => (hB.up (Nat.le_refl _) (Nat.le_refl _) (fun j h1 h2 => h j (by omega) h2)).bf.fz24
    by_cases c1 : topF (ofS l zero) = -1
    · have e1 : flattenF l zero = ofS l zero := by simp [flattenF, c1]
      simp +contextual (disch := omega) [Nat.add_assoc, Int.add_assoc, if_pos, if_neg, -Int.not_lt, -Int.not_le, -Nat.not_lt, -Nat.not_le, -List.length_flatMap, hst.1, hst.2.1, hEM, hcF, ansK hT, c1, y1, e1]
      rw [hBz _ (fun j h1 h2 => by simp +contextual (disch := omega) [Nat.add_assoc, Int.add_assoc, if_pos, if_neg, -Int.not_lt, -Int.not_le, -Nat.not_lt, -Nat.not_le, -List.length_flatMap])]
      simp +contextual (disch := omega) [Nat.add_assoc, Int.add_assoc, if_pos, if_neg, -Int.not_lt, -Int.not_le, -Nat.not_lt, -Nat.not_le, -List.length_flatMap, cF]
    · by_cases c2 : (ofS l zero).cst ≤ topF (ofS l zero) + 1
      · have e1 : flattenF l zero = ⟨0, (ofS l zero).offs⟩ := by simp [flattenF, c1, c2]
        simp +contextual (disch := omega) [Nat.add_assoc, Int.add_assoc, if_pos, if_neg, -Int.not_lt, -Int.not_le, -Nat.not_lt, -Nat.not_le, -List.length_flatMap, hst.1, hst.2.1, hEM, hcF, ansK hT, c1, c2, y1, e1]
        rw [hBz _ (fun j h1 h2 => by simp +contextual (disch := omega) [Nat.add_assoc, Int.add_assoc, if_pos, if_neg, -Int.not_lt, -Int.not_le, -Nat.not_lt, -Nat.not_le, -List.length_flatMap])]
        simp +contextual (disch := omega) [Nat.add_assoc, Int.add_assoc, if_pos, if_neg, -Int.not_lt, -Int.not_le, -Nat.not_lt, -Nat.not_le, -List.length_flatMap, cF]
      · have e1 : flattenF l zero = ofS l zero := by simp [flattenF, c2]
        simp +contextual (disch := omega) [Nat.add_assoc, Int.add_assoc, if_pos, if_neg, -Int.not_lt, -Int.not_le, -Nat.not_lt, -Nat.not_le, -List.length_flatMap, hst.1, hst.2.1, hEM, hcF, ansK hT, c1, c2, y1, e1]
        rw [hBz _ (fun j h1 h2 => by simp +contextual (disch := omega) [Nat.add_assoc, Int.add_assoc, if_pos, if_neg, -Int.not_lt, -Int.not_le, -Nat.not_lt, -Nat.not_le, -List.length_flatMap])]
        simp +contextual (disch := omega) [Nat.add_assoc, Int.add_assoc, if_pos, if_neg, -Int.not_lt, -Int.not_le, -Nat.not_lt, -Nat.not_le, -List.length_flatMap, cF]
theorem Ex.ap {m m' : Sto} {B : V} {l : List Int} (l' : List Int) {lo x slot n : Nat} {K : V → Ws → Prop} {xs : List V} (hB : Ex m B l lo x) (hm : ∀ j, lo ≤ j → j < x → m' j = m j) (hx : x ≤ slot) (hlo : lo ≤ x) (hxs : xs = l'.flatMap cI) (hn : n = l'.length) (h0 : l'.length ≠ 0) (hl : l.length + l'.length ≤ 2147483648)
    (hK : ∀ B' ws m2, m'.app ws = m2 → Ex m2 B' (l ++ l') lo (slot + 1) → (∀ j, j < lo → m2 j = m' j) → (∀ j, x ≤ j → j < slot → m2 j = m' j) → K B' ws) : opK (apV m' 1 B xs n slot) K := by
  subst hn hxs
  have hf := flatI_len
  rcases hB with ⟨rfl, rfl⟩ | ⟨a, rfl, h1, h2, h3⟩
  · have hB : l'.length ≤ BIG := by unfold BIG; simp at hl; omega
    rw [apV_ns, if_neg h0, if_pos hB]
    refine hK _ _ _ rfl (.inr ⟨slot, by simp, by rw [sapp_cons, sapp_nil, Sto.seq]; rfl, by omega, by omega⟩) (fun j hj => ?_) (fun j h1 h2 => ?_)
    · rw [sapp_cons, sapp_nil, Sto.sne _ _ _ _ (by simp only; omega)]
    · rw [sapp_cons, sapp_nil, Sto.sne _ _ _ _ (by simp only; omega)]
  · have hB : l.length + l'.length ≤ BIG := by unfold BIG; omega
    have ha : m' a = some (.cells (l.flatMap cI) false) := by rw [hm a h2 h3, h1]
    rw [apV_ms, if_neg h0, ha, apO_cells, if_pos ⟨rfl, by rw [hf, Nat.mul_one]; exact Nat.le_refl _, hB⟩, List.take_of_length_le (by rw [hf, Nat.mul_one]; exact Nat.le_refl _)]
    have far : ∀ j, j ≠ a → j ≠ slot → (m'.app [(a, none), (slot, some (.cells (l.flatMap cI ++ l'.flatMap cI) false))]) j = m' j := by
      intro j q1 q2
      rw [sapp_cons, sapp_cons, sapp_nil, Sto.sne _ _ _ _ q2, Sto.sne _ _ _ _ q1]
    exact hK _ _ _ rfl (.inr ⟨slot, by simp, by rw [sapp_cons, sapp_cons, sapp_nil, Sto.seq, List.flatMap_append], by omega, by omega⟩) (fun j hj => far j (by omega) (by omega)) (fun j h1 h2 => far j (by omega) (by omega))
theorem ref06_none.w {m0 : Sto} {x0 : Nat} {K : CR → Sto → Nat → Prop} (c : Int) (p : Nat) (hp : p ≤ 1000)
    (hK : ∀ B m' x', x0 ≤ x' → (∀ j, j < x0 → m' j = m0 j) → Ex m' B (List.replicate p (-1)) x0 x' → K (.ret (.ag [.i .i64 c, B])) m' x') :
    w ctx (envOf [.i .i64 c, .i .i64 p]) m0 x0 [] none none (RetG ctx ref06_none.c.rs K) ref06_none.c.code := by
  simp +contextual (disch := omega) [Nat.add_assoc, Int.add_assoc, if_pos, if_neg, -Int.not_lt, -Int.not_le, -Nat.not_lt, -Nat.not_le, -List.length_flatMap, ref06_none.c]
  refine for_w (fun i e m x => ∃ B, e 1 = .i .i64 p ∧ e 4 = .p x0 0 ∧ e 5 = .p (x0 + 3) 0 ∧ e 6 = .i .i64 i ∧ x0 + 4 ≤ x ∧ m x0 = some (.cells [.i .i64 0, .ns] false) ∧ m (x0 + 3) = some (.cells [.i .i64 c, B] false) ∧ Ex m B (List.replicate i (-1)) (x0 + 4) x ∧ (∀ j, j < x0 → m j = m0 j)) p ?_ ?_ ?_
  · refine ⟨.ns, ?_⟩
    simp +contextual (disch := omega) [Nat.add_assoc, Int.add_assoc, if_pos, if_neg, -Int.not_lt, -Int.not_le, -Nat.not_lt, -Nat.not_le, -List.length_flatMap]
    exact .inl ⟨rfl, rfl⟩
  · rintro i e m x hi ⟨B, g1, g4, g5, g6, gx, y0, y1, gB, gm⟩
    simp +contextual (disch := omega) [Nat.add_assoc, Int.add_assoc, if_pos, if_neg, -Int.not_lt, -Int.not_le, -Nat.not_lt, -Nat.not_le, -List.length_flatMap, ref06_none.b1, g1, g4, g5, g6, y0, y1, hi, -apV_ns]
    refine gB.ap [-1] (fun j h1 h2 => by simp +contextual (disch := omega) [Nat.add_assoc, Int.add_assoc, if_pos, if_neg, -Int.not_lt, -Int.not_le, -Nat.not_lt, -Nat.not_le, -List.length_flatMap]) (by omega) (by omega) rfl rfl (by simp) (by simp; omega) ?_
    intro B' ws m2 z0 z1 z2 z3
    have q0 : m2 x0 = some (.cells [.i .i64 0, .ns] false) := by rw [z2 x0 (by omega)]; simp +contextual (disch := omega) [Nat.add_assoc, Int.add_assoc, if_pos, if_neg, -Int.not_lt, -Int.not_le, -Nat.not_lt, -Nat.not_le, -List.length_flatMap, y0]
    have q1 : m2 (x0 + 3) = some (.cells [.i .i64 c, B] false) := by rw [z2 (x0 + 3) (by omega)]; simp +contextual (disch := omega) [Nat.add_assoc, Int.add_assoc, if_pos, if_neg, -Int.not_lt, -Int.not_le, -Nat.not_lt, -Nat.not_le, -List.length_flatMap, y1]
    have qm : ∀ j, j < x0 → m2 j = m0 j := fun j hj => by rw [z2 j (by omega)]; simp +contextual (disch := omega) [Nat.add_assoc, Int.add_assoc, if_pos, if_neg, -Int.not_lt, -Int.not_le, -Nat.not_lt, -Nat.not_le, -List.length_flatMap, gm]
    have hst := z1.stor
    rw [← List.replicate_succ'] at z1
    simp +contextual (disch := omega) [Nat.add_assoc, Int.add_assoc, if_pos, if_neg, -Int.not_lt, -Int.not_le, -Nat.not_lt, -Nat.not_le, -List.length_flatMap, z0, g1, g4, g5, g6, q0, q1, hst.1, hst.2.1]
    exact ⟨by omega, z1.up (by omega) (by omega) (fun j h1 h2 => by simp +contextual (disch := omega) [Nat.add_assoc, Int.add_assoc, if_pos, if_neg, -Int.not_lt, -Int.not_le, -Nat.not_lt, -Nat.not_le, -List.length_flatMap]), qm⟩
  · rintro e m x ⟨B, g1, g4, g5, g6, gx, y0, y1, gB, gm⟩
    have hst := gB.stor
    simp +contextual (disch := omega) [Nat.add_assoc, Int.add_assoc, if_pos, if_neg, -Int.not_lt, -Int.not_le, -Nat.not_lt, -Nat.not_le, -List.length_flatMap, ref06_none.b1, g1, g4, g5, g6, y0, y1, hst.1, hst.2.1]
    exact hK B _ _ (by omega) (fun j hj => by rw [Sto.sne _ _ _ _ (by omega), gm j hj]) (gB.up (by omega) (by omega) (fun j h1 h2 => by simp +contextual (disch := omega) [Nat.add_assoc, Int.add_assoc, if_pos, if_neg, -Int.not_lt, -Int.not_le, -Nat.not_lt, -Nat.not_le, -List.length_flatMap]))
def noughtF (f : F) : Bool := f.offs.all (fun a => decide (a < 0)) && decide (f.cst = 0)
theorem nought_iff {p : Nat} {d : Int} {f : F} (h : Bd p d f) : noughtF f = true ↔ f.cst = 0 ∧ topF f = -1 := by
  unfold noughtF
  simp only [Bool.and_eq_true, List.all_eq_true, decide_eq_true_eq]
  constructor
  · rintro ⟨h1, h2⟩
    refine ⟨h2, ?_⟩
    rcases fmax_at f.offs (-1) with h3 | h3
    · exact h3
    · have := h1 _ h3
      have := h.2.2 _ h3
      unfold topF
      omega
  · rintro ⟨h1, h2⟩
    refine ⟨fun a ha => ?_, h1⟩
    have := fmax_mem f.offs (-1) a ha
    unfold topF at h2
    omega
theorem ref06_nought.a (f : F) (hl : f.offs.length ≤ 1000000) : Ans ctx ref06_nought.n [.ag (cF f)] (.b (noughtF f)) := by
  refine ans ref06_nought.f ?_
  obtain ⟨r, hr⟩ : ∃ r, r = noughtF f := ⟨_, rfl⟩
  rw [← hr]
  simp +contextual (disch := omega) [Nat.add_assoc, Int.add_assoc, if_pos, if_neg, -Int.not_lt, -Int.not_le, -Nat.not_lt, -Nat.not_le, -List.length_flatMap, ref06_nought.c]
  refine for_w (fun i e m x => e 1 = .p 0 0 ∧ m 0 = some (.cells (cF f) false) ∧ e 3 = .i .i64 i ∧ (f.offs.take i).all (fun a => decide (a < 0)) = true) f.offs.length ?_ ?_ ?_
  · simp +contextual (disch := omega) [Nat.add_assoc, Int.add_assoc, if_pos, if_neg, -Int.not_lt, -Int.not_le, -Nat.not_lt, -Nat.not_le, -List.length_flatMap]
  · rintro i e m x hi ⟨g1, y0, g3, hg⟩
    by_cases h1 : 0 ≤ f.offs[i]
    · have hf : r = false := by
        have := all_at (p := fun a => decide (a < 0)) hi (by simp; omega)
        rw [hr]; unfold noughtF; rw [this]; simp
      simp +contextual (disch := omega) [Nat.add_assoc, Int.add_assoc, if_pos, if_neg, -Int.not_lt, -Int.not_le, -Nat.not_lt, -Nat.not_le, -List.length_flatMap, ref06_nought.b1, g1, y0, g3, hi, h1, hf]
    · have hg' := take_all (p := fun a => decide (a < 0)) hi hg (by simp; omega)
      have hg2 : ∀ x, x ∈ f.offs.take (i + 1) → x < 0 := fun x hx => by simpa using List.all_eq_true.1 hg' x hx
      simp +contextual (disch := omega) [Nat.add_assoc, Int.add_assoc, if_pos, if_neg, -Int.not_lt, -Int.not_le, -Nat.not_lt, -Nat.not_le, -List.length_flatMap, ref06_nought.b1, g1, y0, g3, hi, h1]
      exact hg2
  · rintro e m x ⟨g1, y0, g3, hg⟩
    rw [List.take_length] at hg
    have hf : r = decide (f.cst = 0) := by rw [hr]; unfold noughtF; rw [hg]; simp
    simp +contextual (disch := omega) [Nat.add_assoc, Int.add_assoc, if_pos, if_neg, -Int.not_lt, -Int.not_le, -Nat.not_lt, -Nat.not_le, -List.length_flatMap, ref06_nought.b1, g1, y0, g3, hf]
theorem zipM_step {a b : List Int} {i : Nat} (h1 : i < a.length) (h2 : i < b.length) : zipM (a.take (i + 1)) (b.take (i + 1)) = zipM (a.take i) (b.take i) ++ [max a[i] b[i]] := by
  induction a generalizing b i with
  | nil => simp at h1
  | cons x a ih =>
    cases b with
    | nil => simp at h2
    | cons y b =>
      cases i with
      | zero => simp [zipM]
      | succ i => simp only [List.take_succ_cons, zipM, List.cons_append, List.getElem_cons_succ, ih (by simpa using h1) (by simpa using h2)]
theorem ref06_both.a (f g : F) (hl : f.offs.length = g.offs.length) (hl2 : f.offs.length ≤ 1000) : Ans ctx ref06_both.n [.ag (cF f), .ag (cF g)] (.ag (cF (joinF f g))) := by
  refine ans ref06_both.f ?_
  simp +contextual (disch := omega) [Nat.add_assoc, Int.add_assoc, if_pos, if_neg, -Int.not_lt, -Int.not_le, -Nat.not_lt, -Nat.not_le, -List.length_flatMap, ref06_both.c]
  refine for_w (fun i e m x => ∃ B, e 2 = .p 0 0 ∧ e 3 = .p 1 0 ∧ e 4 = .p 2 0 ∧ e 5 = .p 9 0 ∧ e 6 = .i .i64 i ∧ 10 ≤ x ∧ m 0 = some (.cells (cF f) false) ∧ m 1 = some (.cells (cF g) false) ∧ m 2 = some (.cells [.i .i64 0, .ns] false) ∧ m 9 = some (.cells [.i .i64 (max f.cst g.cst), B] false) ∧
    Ex m B (zipM (f.offs.take i) (g.offs.take i)) 10 x) f.offs.length ?_ ?_ ?_
  · refine ⟨.ns, ?_⟩
    simp +contextual (disch := omega) [Nat.add_assoc, Int.add_assoc, if_pos, if_neg, -Int.not_lt, -Int.not_le, -Nat.not_lt, -Nat.not_le, -List.length_flatMap]
    exact .inl ⟨rfl, by simp [zipM]⟩
  · rintro i e m x hi ⟨B, g2, g3, g4, g5, g6, gx, y0, y1, y2, y3, gB⟩
    have hi2 : i < g.offs.length := by omega
    simp +contextual (disch := omega) [Nat.add_assoc, Int.add_assoc, if_pos, if_neg, -Int.not_lt, -Int.not_le, -Nat.not_lt, -Nat.not_le, -List.length_flatMap, ref06_both.b1, g2, g3, g4, g5, g6, y0, y1, y2, y3, hi, hi2, -apV_ns]
    have hzl : (zipM (f.offs.take i) (g.offs.take i)).length = i := by rw [zipM_len (by simp [List.length_take]; omega)]; simp; omega
    refine gB.ap [max f.offs[i] g.offs[i]] (fun j h1 h2 => by simp +contextual (disch := omega) [Nat.add_assoc, Int.add_assoc, if_pos, if_neg, -Int.not_lt, -Int.not_le, -Nat.not_lt, -Nat.not_le, -List.length_flatMap]) (by omega) (by omega) rfl rfl (by simp) (by rw [hzl]; simp; omega) ?_
    intro B' ws m2 z0 z1 z2 z3
    have q0 : m2 0 = some (.cells (cF f) false) := by rw [z2 0 (by omega)]; simp +contextual (disch := omega) [Nat.add_assoc, Int.add_assoc, if_pos, if_neg, -Int.not_lt, -Int.not_le, -Nat.not_lt, -Nat.not_le, -List.length_flatMap, y0]
    have q1 : m2 1 = some (.cells (cF g) false) := by rw [z2 1 (by omega)]; simp +contextual (disch := omega) [Nat.add_assoc, Int.add_assoc, if_pos, if_neg, -Int.not_lt, -Int.not_le, -Nat.not_lt, -Nat.not_le, -List.length_flatMap, y1]
    have q2 : m2 2 = some (.cells [.i .i64 0, .ns] false) := by rw [z2 2 (by omega)]; simp +contextual (disch := omega) [Nat.add_assoc, Int.add_assoc, if_pos, if_neg, -Int.not_lt, -Int.not_le, -Nat.not_lt, -Nat.not_le, -List.length_flatMap, y2]
    have q9 : m2 9 = some (.cells [.i .i64 (max f.cst g.cst), B] false) := by rw [z2 9 (by omega)]; simp +contextual (disch := omega) [Nat.add_assoc, Int.add_assoc, if_pos, if_neg, -Int.not_lt, -Int.not_le, -Nat.not_lt, -Nat.not_le, -List.length_flatMap, y3]
    have hst := z1.stor
    rw [← zipM_step hi hi2] at z1
    simp +contextual (disch := omega) [Nat.add_assoc, Int.add_assoc, if_pos, if_neg, -Int.not_lt, -Int.not_le, -Nat.not_lt, -Nat.not_le, -List.length_flatMap, z0, g2, g3, g4, g5, g6, q0, q1, q2, q9, hst.1, hst.2.1]
    exact z1.up (by omega) (by omega) (fun j h1 h2 => by simp +contextual (disch := omega) [Nat.add_assoc, Int.add_assoc, if_pos, if_neg, -Int.not_lt, -Int.not_le, -Nat.not_lt, -Nat.not_le, -List.length_flatMap])
  · rintro e m x ⟨B, g2, g3, g4, g5, g6, gx, y0, y1, y2, y3, gB⟩
    have hst := gB.stor
    simp +contextual (disch := omega) [Nat.add_assoc, Int.add_assoc, if_pos, if_neg, -Int.not_lt, -Int.not_le, -Nat.not_lt, -Nat.not_le, -List.length_flatMap, ref06_both.b1, g2, g3, g4, g5, g6, y0, y1, y2, y3, hst.1, hst.2.1]
    have hfz := (gB.up (m' := m.set 2 (some (.cells [.i .i64 (max f.cst g.cst), B] false))) (Nat.le_refl _) (Nat.le_refl _) (fun j h1 h2 => by simp +contextual (disch := omega) [Nat.add_assoc, Int.add_assoc, if_pos, if_neg, -Int.not_lt, -Int.not_le, -Nat.not_lt, -Nat.not_le, -List.length_flatMap])).bf.fz24
    rw [List.take_length, hl, List.take_length] at hfz
    simp +contextual (disch := omega) [Nat.add_assoc, Int.add_assoc, if_pos, if_neg, -Int.not_lt, -Int.not_le, -Nat.not_lt, -Nat.not_le, -List.length_flatMap, hfz, cF, joinF]
end Pi
