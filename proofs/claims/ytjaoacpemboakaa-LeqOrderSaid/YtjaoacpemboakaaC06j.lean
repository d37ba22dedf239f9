/- Flats tell what a level is: plain laws. -/
import Derived.Test.YtjaoacpemboakaaC06f
import Derived.Test.YtjaoacpemboakaaC02d
set_option linter.unusedSimpArgs false
set_option linter.unusedVariables false
namespace Pi
theorem valL_le : ∀ {ns ps : List Int} {o t : Int}, ns.length = ps.length → (valL ns ps o ≤ t ↔ o ≤ t ∧ ∀ i : Nat, ns.getD i (-1) ≠ -1 → ps.getD i 0 + ns.getD i (-1) ≤ t)
  | [], [], o, t, _ => by simp [valL]
  | n :: ns, p :: ps, o, t, h => by
    rw [valL, valL_le (by simpa using h)]
    constructor
    · rintro ⟨h1, h2⟩
      refine ⟨by split at h1 <;> omega, fun i hi => ?_⟩
      cases i with
      | zero =>
        simp only [List.getD_cons_zero] at hi ⊢
        rw [if_neg hi] at h1
        omega
      | succ i => simpa using h2 i (by simpa using hi)
    · rintro ⟨h1, h2⟩
      refine ⟨?_, fun i hi => by simpa using h2 (i + 1) (by simpa using hi)⟩
      split
      · exact h1
      · rename_i hn
        have := h2 0 (by simpa using hn)
        simp only [List.getD_cons_zero] at this
        omega
  | [], _ :: _, _, _, h => by simp at h
  | _ :: _, [], _, _, h => by simp at h
theorem eq_of_le {a b : Int} (h : ∀ t, a ≤ t ↔ b ≤ t) : a = b := Int.le_antisymm ((h b).2 (Int.le_refl _)) ((h a).1 (Int.le_refl _))
def vF (f : F) (p : List Int) : Int := valL f.offs p f.cst
theorem vF_le {f : F} {p : List Int} {t : Int} (h : f.offs.length = p.length) : vF f p ≤ t ↔ f.cst ≤ t ∧ ∀ i : Nat, f.offs.getD i (-1) ≠ -1 → p.getD i 0 + f.offs.getD i (-1) ≤ t := valL_le h
theorem vF_cst {f : F} {p : List Int} (h : f.offs.length = p.length) : f.cst ≤ vF f p := ((vF_le h).1 (Int.le_refl _)).1
theorem vF_at {f : F} {p : List Int} (h : f.offs.length = p.length) (i : Nat) (hi : f.offs.getD i (-1) ≠ -1) : p.getD i 0 + f.offs.getD i (-1) ≤ vF f p := ((vF_le h).1 (Int.le_refl _)).2 i hi
theorem upO_getD (l : List Int) (i : Nat) : (l.map upO).getD i (-1) = upO (l.getD i (-1)) := by
  by_cases h : i < l.length
  · simp [h]
  · simp [List.getElem?_eq_none (by omega : l.length ≤ i), upO]
theorem zipM_getD : ∀ {a b : List Int} {i : Nat}, a.length = b.length → (zipM a b).getD i (-1) = max (a.getD i (-1)) (b.getD i (-1))
  | [], [], i, _ => by simp [zipM]
  | x :: a, y :: b, 0, _ => by simp [zipM]
  | x :: a, y :: b, i + 1, h => by
    have := zipM_getD (a := a) (b := b) (i := i) (by simpa using h)
    simpa [zipM] using this
  | [], _ :: _, _, h => by simp at h
  | _ :: _, [], _, h => by simp at h
theorem rep_getD (n i : Nat) : (List.replicate n (-1 : Int)).getD i (-1) = -1 := by
  by_cases h : i < n
  · simp [h]
  · simp [List.getElem?_eq_none (by simpa using h : (List.replicate n (-1 : Int)).length ≤ i)]
theorem set_getD {l : List Int} {i j : Nat} {v d : Int} : (l.set i v).getD j d = if i = j ∧ j < l.length then v else l.getD j d := by
  by_cases h : j < l.length
  · simp only [List.getD_eq_getElem?_getD, List.getElem?_set]
    by_cases hij : i = j
    · subst hij; simp [h]
    · simp [hij]
  · have h1 : (l.set i v).getD j d = d := by simp [List.getElem?_eq_none (by simpa using h : (l.set i v).length ≤ j)]
    have h2 : l.getD j d = d := by simp [List.getElem?_eq_none (by omega : l.length ≤ j)]
    rw [h1, h2, if_neg (by omega)]
theorem Bd.getD {p : Nat} {d : Int} {f : F} (h : Bd p d f) (hd : -1 ≤ d) (i : Nat) : -1 ≤ f.offs.getD i (-1) ∧ f.offs.getD i (-1) ≤ d := by
  by_cases hi : i < f.offs.length
  · have e : f.offs.getD i (-1) = f.offs[i] := by simp [hi]
    rw [e]
    exact h.2.2 _ (List.getElem_mem hi)
  · have e : f.offs.getD i (-1) = -1 := by simp [List.getElem?_eq_none (by omega : f.offs.length ≤ i)]
    rw [e]; omega
theorem vF_succ {f : F} {p : List Int} (h : f.offs.length = p.length) (hb : ∀ i, -1 ≤ f.offs.getD i (-1)) : vF (succF f) p = vF f p + 1 := by
  refine eq_of_le fun t => ?_
  have h' : (succF f).offs.length = p.length := by simp [succF, h]
  have e : vF f p + 1 ≤ t ↔ vF f p ≤ t - 1 := by omega
  rw [e, vF_le h', vF_le h]
  simp only [succF, upO_getD]
  constructor
  · rintro ⟨h1, h2⟩
    refine ⟨by omega, fun i hi => ?_⟩
    have hu : upO (f.offs.getD i (-1)) = f.offs.getD i (-1) + 1 := by unfold upO; rw [if_neg hi]
    have := h2 i (by have := hb i; rw [hu]; omega)
    rw [hu] at this
    omega
  · rintro ⟨h1, h2⟩
    refine ⟨by omega, fun i hi => ?_⟩
    have hne : f.offs.getD i (-1) ≠ -1 := fun h => hi (by rw [h]; rfl)
    have hu : upO (f.offs.getD i (-1)) = f.offs.getD i (-1) + 1 := by unfold upO; rw [if_neg hne]
    rw [hu]
    have := h2 i hne
    omega
theorem vF_join {f g : F} {p : List Int} (hf : f.offs.length = p.length) (hg : g.offs.length = p.length) (bf : ∀ i, -1 ≤ f.offs.getD i (-1)) (bg : ∀ i, -1 ≤ g.offs.getD i (-1)) : vF (joinF f g) p = max (vF f p) (vF g p) := by
  refine eq_of_le fun t => ?_
  have h' : (joinF f g).offs.length = p.length := by simp only [joinF]; rw [zipM_len (by rw [hf, hg]), hf]
  have e : max (vF f p) (vF g p) ≤ t ↔ vF f p ≤ t ∧ vF g p ≤ t := by omega
  rw [e, vF_le h', vF_le hf, vF_le hg]
  simp only [joinF, zipM_getD (by rw [hf, hg] : f.offs.length = g.offs.length)]
  constructor
  · rintro ⟨h1, h2⟩
    refine ⟨⟨by omega, fun i hi => ?_⟩, by omega, fun i hi => ?_⟩
    · have := bf i; have := bg i
      have := h2 i (by omega)
      omega
    · have := bf i; have := bg i
      have := h2 i (by omega)
      omega
  · rintro ⟨⟨h1, h2⟩, h3, h4⟩
    refine ⟨by omega, fun i hi => ?_⟩
    have b1 := bf i; have b2 := bg i
    by_cases hm : f.offs.getD i (-1) ≤ g.offs.getD i (-1)
    · have := h4 i (by omega)
      omega
    · have := h2 i (by omega)
      omega
theorem top_ne {f : F} (hb : ∀ i, -1 ≤ f.offs.getD i (-1)) (h : topF f ≠ -1) : ∃ i : Nat, f.offs.getD i (-1) = topF f ∧ i < f.offs.length := by
  rcases fmax_at f.offs (-1) with h1 | h1
  · exact (h h1).elim
  · obtain ⟨i, hi, e⟩ := List.mem_iff_getElem.1 h1
    exact ⟨i, by simp [hi, e, topF], hi⟩
/-- Values that a case lets be. -/
def Fits (Z : List Bool) (p : List Int) : Prop := p.length = Z.length ∧ ∀ i : Nat, i < Z.length → if Z.getD i false = true then p.getD i 0 = 0 else 1 ≤ p.getD i 0
theorem of_val (l : L) : ∀ (Z : List Bool) (p : List Int) (d : Int), rightS l Z.length 0 d = true → Fits Z p → vF (ofS l Z) p = lvS l p [] ∧ ∀ i : Nat, Z.getD i false = true → (ofS l Z).offs.getD i (-1) = -1 := by
  induction l using L.ind with
  | h l ih =>
  intro Z p d hr hF
  obtain ⟨h1, h2, h3, h4⟩ := right_kid hr
  have hkb := fun k hk => ofS_bd k Z (d - 1) (h4 k hk)
  have hd0 : ∀ k ∈ l.kids, -1 ≤ d - 1 - 1 := fun k hk => by have := (right_kid (h4 k hk)).1; omega
  have hbi := fun k hk i => (hkb k hk).getD (hd0 k hk) i
  have hlen := fun k hk => (hkb k hk).1.trans hF.1.symm
  rw [ofS_eq, lvS_eq]
  have plain : vF (plainF Z.length) p = 0 ∧ ∀ i : Nat, Z.getD i false = true → (plainF Z.length).offs.getD i (-1) = -1 := by
    refine ⟨eq_of_le fun t => ?_, fun i _ => rep_getD _ _⟩
    rw [vF_le (by simp [plainF, hF.1])]
    simp only [plainF, rep_getD]
    simp
  rcases right_kind hr with hk | hk | hk | hk | hk | hk
  · have e1 : ofK l.kind l.n Z (l.kids.map fun k => ofS k Z) = plainF Z.length := by simp [ofK, hk]
    have e2 : valK l.kind l.n p [] (l.kids.map fun k => lvS k p []) = 0 := by simp [valK, hk]
    rw [e1, e2]; exact plain
  · rw [hk] at h2
    obtain ⟨k0, hks⟩ := kids1 (l := l) (by rw [h2]; simp [kidsS])
    have m0 : k0 ∈ l.kids := by rw [hks]; simp
    have e1 : ofK l.kind l.n Z (l.kids.map fun k => ofS k Z) = succF (ofS k0 Z) := by rw [hks]; simp [ofK, hk]
    have e2 : valK l.kind l.n p [] (l.kids.map fun k => lvS k p []) = lvS k0 p [] + 1 := by rw [hks]; simp [valK, hk]
    obtain ⟨i1, i2⟩ := ih k0 m0 Z p (d - 1) (h4 k0 m0) hF
    rw [e1, e2, vF_succ (hlen k0 m0) (fun i => (hbi k0 m0 i).1), i1]
    refine ⟨rfl, fun i hi => ?_⟩
    simp only [succF]
    rw [upO_getD, i2 i hi]; rfl
  · rw [hk] at h2
    obtain ⟨k0, k1, hks⟩ := kids2 (l := l) (by rw [h2]; simp [kidsS])
    have m0 : k0 ∈ l.kids := by rw [hks]; simp
    have m1 : k1 ∈ l.kids := by rw [hks]; simp
    have e1 : ofK l.kind l.n Z (l.kids.map fun k => ofS k Z) = joinF (ofS k0 Z) (ofS k1 Z) := by rw [hks]; simp [ofK, hk]
    have e2 : valK l.kind l.n p [] (l.kids.map fun k => lvS k p []) = max (lvS k0 p []) (lvS k1 p []) := by rw [hks]; simp [valK, hk]
    obtain ⟨i1, i2⟩ := ih k0 m0 Z p (d - 1) (h4 k0 m0) hF
    obtain ⟨j1, j2⟩ := ih k1 m1 Z p (d - 1) (h4 k1 m1) hF
    rw [e1, e2, vF_join (hlen k0 m0) (hlen k1 m1) (fun i => (hbi k0 m0 i).1) (fun i => (hbi k1 m1 i).1), i1, j1]
    refine ⟨rfl, fun i hi => ?_⟩
    simp only [joinF]
    rw [zipM_getD ((hlen k0 m0).trans (hlen k1 m1).symm), i2 i hi, j2 i hi]; rfl
  · rw [hk] at h2
    obtain ⟨k0, k1, hks⟩ := kids2 (l := l) (by rw [h2]; simp [kidsS])
    have m0 : k0 ∈ l.kids := by rw [hks]; simp
    have m1 : k1 ∈ l.kids := by rw [hks]; simp
    have e1 : ofK l.kind l.n Z (l.kids.map fun k => ofS k Z) = if (ofS k1 Z).cst = 0 ∧ topF (ofS k1 Z) = -1 then ofS k1 Z else joinF (ofS k0 Z) (ofS k1 Z) := by rw [hks]; simp [ofK, hk]
    have e2 : valK l.kind l.n p [] (l.kids.map fun k => lvS k p []) = imaxS (lvS k0 p []) (lvS k1 p []) := by rw [hks]; simp [valK, hk]
    obtain ⟨i1, i2⟩ := ih k0 m0 Z p (d - 1) (h4 k0 m0) hF
    obtain ⟨j1, j2⟩ := ih k1 m1 Z p (d - 1) (h4 k1 m1) hF
    rw [e1, e2]
    by_cases c : (ofS k1 Z).cst = 0 ∧ topF (ofS k1 Z) = -1
    · rw [if_pos c]
      have h0 : vF (ofS k1 Z) p = 0 := eq_of_le fun t => by
        rw [vF_le (hlen k1 m1), c.1]
        refine ⟨fun h => h.1, fun h => ⟨h, fun i hi => ?_⟩⟩
        exfalso
        have hil : i < (ofS k1 Z).offs.length := by
          refine Classical.byContradiction fun hh => hi ?_
          simp [List.getElem?_eq_none (by omega : (ofS k1 Z).offs.length ≤ i)]
        have e : (ofS k1 Z).offs.getD i (-1) = (ofS k1 Z).offs[i] := by simp [hil]
        have h1 := fmax_mem (ofS k1 Z).offs (-1) _ (List.getElem_mem hil)
        have h2 := c.2
        unfold topF at h2
        have := hbi k1 m1 i
        rw [e] at hi this
        omega
      refine ⟨?_, j2⟩
      rw [h0] at j1
      rw [← j1, h0]
      simp [imaxS]
    · rw [if_neg c]
      have hpos : 0 < vF (ofS k1 Z) p := by
        by_cases c1 : (ofS k1 Z).cst = 0
        · have c2 : topF (ofS k1 Z) ≠ -1 := fun h => c ⟨c1, h⟩
          obtain ⟨i, hi, hil⟩ := top_ne (fun i => (hbi k1 m1 i).1) c2
          have hge : -1 ≤ topF (ofS k1 Z) := fmax_ge _ _
          have hz : Z.getD i false ≠ true := fun h => by have := j2 i h; omega
          have hfi := hF.2 i (by have := (hkb k1 m1).1; omega)
          rw [if_neg hz] at hfi
          have := vF_at (hlen k1 m1) i (by omega)
          omega
        · have := vF_cst (hlen k1 m1)
          have := (hkb k1 m1).2.1
          omega
      rw [vF_join (hlen k0 m0) (hlen k1 m1) (fun i => (hbi k0 m0 i).1) (fun i => (hbi k1 m1 i).1), i1, j1]
      rw [j1] at hpos
      refine ⟨?_, fun i hi => ?_⟩
      · unfold imaxS
        rw [if_neg (by omega)]
      · simp only [joinF]
        rw [zipM_getD ((hlen k0 m0).trans (hlen k1 m1).symm), i2 i hi, j2 i hi]; rfl
  · have hn : 0 ≤ l.n ∧ l.n < Z.length := by simp [namedS, hk] at h3; exact h3
    obtain ⟨q, hq⟩ : ∃ q : Nat, l.n = q := ⟨l.n.toNat, by omega⟩
    have hql : q < Z.length := by omega
    have hg1 : Z.getD q true = Z[q] := by simp [hql]
    have hg2 : Z.getD q false = Z[q] := by simp [hql]
    have e2 : valK l.kind l.n p [] (l.kids.map fun k => lvS k p []) = p.getD q 0 := by simp [valK, hk, hq]
    have hfi := hF.2 q hql
    rw [hg2] at hfi
    rw [e2]
    cases hz : Z[q] with
    | true =>
      have e1 : ofK l.kind l.n Z (l.kids.map fun k => ofS k Z) = plainF Z.length := by simp [ofK, hk, hq, hg1, hz, hql]
      rw [hz, if_pos rfl] at hfi
      rw [e1, hfi]; exact plain
    | false =>
      have e1 : ofK l.kind l.n Z (l.kids.map fun k => ofS k Z) = ⟨0, (List.replicate Z.length (-1)).set q 0⟩ := by simp [ofK, hk, hq, hg1, hz, hql]
      rw [hz, if_neg (by simp)] at hfi
      rw [e1]
      have hsg : ∀ i : Nat, ((List.replicate Z.length (-1 : Int)).set q 0).getD i (-1) = if q = i then 0 else -1 := fun i => by
        rw [set_getD, rep_getD]
        simp only [List.length_replicate]
        by_cases h : q = i
        · rw [if_pos ⟨h, by omega⟩, if_pos h]
        · rw [if_neg (by omega), if_neg h]
      refine ⟨eq_of_le fun t => ?_, fun i hi => ?_⟩
      · rw [vF_le (by simp [hF.1])]
        simp only [hsg]
        constructor
        · rintro ⟨h1, h2⟩
          have := h2 q (by simp)
          rw [if_pos rfl] at this
          omega
        · intro h
          refine ⟨by omega, fun i hi => ?_⟩
          by_cases hqi : q = i
          · subst hqi; rw [if_pos rfl]; omega
          · rw [if_neg hqi] at hi; exact (hi rfl).elim
      · simp only [hsg]
        rw [if_neg]
        rintro rfl
        rw [hg2, hz] at hi
        cases hi
  · simp [namedS, hk] at h3; omega
theorem flatten_val {l : L} {Z : List Bool} {p : List Int} {d : Int} (hr : rightS l Z.length 0 d = true) (hF : Fits Z p) : vF (flattenF l Z) p = lvS l p [] := by
  obtain ⟨i1, i2⟩ := of_val l Z p d hr hF
  have hbd := ofS_bd l Z d hr
  have hd := (right_kid hr).1
  have hb := fun i => hbd.getD (by omega) i
  have hlen : (ofS l Z).offs.length = p.length := hbd.1.trans hF.1.symm
  rw [← i1]
  unfold flattenF
  split
  · rename_i c
    obtain ⟨i, hi, hil⟩ := top_ne (fun i => (hb i).1) c.1
    have hge : -1 ≤ topF (ofS l Z) := fmax_ge _ _
    have hz : Z.getD i false ≠ true := fun h => by have := i2 i h; omega
    have hfi := hF.2 i (by have := hbd.1; omega)
    rw [if_neg hz] at hfi
    have hv := vF_at hlen i (by omega)
    refine eq_of_le fun t => ?_
    rw [vF_le (f := ⟨0, (ofS l Z).offs⟩) hlen, vF_le hlen]
    simp only
    constructor
    · rintro ⟨h1, h2⟩
      have := h2 i (by omega)
      exact ⟨by omega, h2⟩
    · rintro ⟨h1, h2⟩
      exact ⟨by have := hbd.2.1; omega, h2⟩
  · rfl
theorem flatten_right {l : L} {Z : List Bool} (hz : Z.length ≤ 5) {d : Int} (hd : d ≤ 100) (hr : rightS l Z.length 0 d = true) : rightF (flattenF l Z) = true := by
  have hbd := ofS_bd l Z d hr
  have hge : -1 ≤ topF (ofS l Z) := fmax_ge _ _
  have hoff : (flattenF l Z).offs = (ofS l Z).offs := by unfold flattenF; split <;> rfl
  have htop : topF (flattenF l Z) = topF (ofS l Z) := by unfold topF; rw [hoff]
  have hodd : (ofS l Z).offs.any oddO = false := by
    rw [List.any_eq_false]
    intro a ha
    have := hbd.2.2 a ha
    simp [oddO]
    omega
  unfold rightF
  rw [htop, hoff, hodd, hbd.1]
  have hc := hbd.2.1
  unfold flattenF
  split
  · rename_i c
    simp
    omega
  · rename_i c
    simp only [Bool.and_eq_true, Bool.or_eq_true, decide_eq_true_eq, Bool.not_false, and_true]
    omega
end Pi
