/- Contracts: levels by cases (layer 7): the law of truth. -/
import Derived.Test.YtjaoacpemboakaaC07f
import Derived.Test.YtjaoacpemboakaaC06k
set_option linter.unusedSimpArgs false
set_option linter.unusedVariables false
namespace Pi
theorem baseZ_getD (Z : List Bool) (i : Nat) (hi : i < Z.length) : (baseZ Z).getD i 0 = if Z.getD i false = true then 0 else 1 := by
  simp [baseZ, hi]
theorem base_fits (Z : List Bool) : Fits Z (baseZ Z) := ⟨baseZ_len Z, fun i hi => by
  rw [baseZ_getD Z i hi]
  split <;> simp_all⟩
theorem flatten_offs (l : L) (Z : List Bool) : (flattenF l Z).offs = (ofS l Z).offs := by unfold flattenF; split <;> rfl
theorem off_none {l : L} {Z : List Bool} {d : Int} (hr : rightS l Z.length 0 d = true) (i : Nat) (h : Z.getD i false = true) : (flattenF l Z).offs.getD i (-1) = -1 := by
  rw [flatten_offs]
  exact (of_val l Z _ d hr (base_fits Z)).2 i h
theorem out_none {f : F} {i : Nat} (h : f.offs.length ≤ i) : f.offs.getD i (-1) = -1 := by simp [List.getElem?_eq_none h]
/-- Where no more than one case may be at hand: at most, for all values that fit. -/
theorem leq_fits {f g : F} (hf : rightF f = true) (hg : rightF g = true) (hl : f.offs.length = g.offs.length) (h : leqF f g = true) {p : List Int} (hp : f.offs.length = p.length) (h1 : ∀ i : Nat, g.offs.getD i (-1) ≠ -1 → 1 ≤ p.getD i 0) : vF f p ≤ vF g p := by
  have hp2 := hl.symm.trans hp
  rw [leqF_iff hf hg hl] at h
  refine (vF_le hp).2 ⟨?_, fun i hi => ?_⟩
  · have h2 := vF_cst hp2
    have h3 := (right_F hg).2.1
    by_cases ht : topF g = -1
    · have := h.2; omega
    · obtain ⟨i, e1, e2⟩ := top_ne (f := g) (right_getD hg) ht
      have := vF_at hp2 i (by omega)
      have := h1 i (by omega)
      have := h.2
      omega
  · have h2 := h.1 i
    have h3 := right_getD hf i
    have := vF_at hp2 i (by omega)
    omega
theorem moreAt_some : ∀ {x y : List Int} {i k : Nat}, x.length = y.length → moreAt x y i = some k → ∃ j : Nat, k = i + j ∧ j < x.length ∧ y.getD j (-1) < x.getD j (-1)
  | [], [], _, _, _, h => by simp [moreAt] at h
  | [], _ :: _, _, _, h, _ => by simp at h
  | _ :: _, [], _, _, h, _ => by simp at h
  | a :: x, b :: y, i, k, hl, h => by
    rw [moreAt] at h
    split at h
    · rename_i hlt
      injection h with h
      exact ⟨0, by omega, by simp, by simpa using hlt⟩
    · obtain ⟨j, h1, h2, h3⟩ := moreAt_some (by simpa using hl) h
      exact ⟨j + 1, by omega, by simpa using h2, by simpa using h3⟩
theorem moreAt_none : ∀ {x y : List Int} {i : Nat}, x.length = y.length → moreAt x y i = none → ∀ j : Nat, x.getD j (-1) ≤ y.getD j (-1)
  | [], [], _, _, _ => fun j => by simp
  | [], _ :: _, _, h, _ => by simp at h
  | _ :: _, [], _, h, _ => by simp at h
  | a :: x, b :: y, i, hl, h => by
    rw [moreAt] at h
    split at h
    · cases h
    · rename_i hlt
      intro j
      cases j with
      | zero => simp; omega
      | succ j => simpa using moreAt_none (by simpa using hl) h j
/-- The values against it show it. -/
theorem against_more {f g : F} {Z : List Bool} (hf : rightF f = true) (hg : rightF g = true) (l1 : f.offs.length = Z.length) (l2 : g.offs.length = Z.length) (hz : ∀ i : Nat, Z.getD i false = true → f.offs.getD i (-1) = -1) (h : leqF f g = false) :
    Fits Z (againstS f g Z) ∧ vF g (againstS f g Z) < vF f (againstS f g Z) ∧ ∀ i : Nat, 0 ≤ (againstS f g Z).getD i 0 ∧ (againstS f g Z).getD i 0 ≤ max 1 (greatF g) := by
  have hn : ¬ leqF f g = true := by rw [h]; simp
  rw [leqF_iff hf hg (l1.trans l2.symm)] at hn
  have b1 : ∀ i : Nat, 0 ≤ (baseZ Z).getD i 0 ∧ (baseZ Z).getD i 0 ≤ 1 := fun i => by
    by_cases hi : i < Z.length
    · rw [baseZ_getD Z i hi]; split <;> omega
    · simp [List.getElem?_eq_none (by rw [baseZ_len]; omega : (baseZ Z).length ≤ i)]
  have hgc := (right_F hg).2.1
  have hgt := (right_F hg).2.2.2.2
  have hgr : g.cst + 2 ≤ greatF g ∧ topF g + 3 ≤ greatF g := by unfold greatF; omega
  have hfi := fun i => right_getD hf i
  have hgi := fun i => right_getD hg i
  unfold againstS
  cases hm : moreAt f.offs g.offs 0 with
  | none =>
    have hall := moreAt_none (l1.trans l2.symm) hm
    have p1 : f.offs.length = (baseZ Z).length := l1.trans (baseZ_len Z).symm
    have p2 : g.offs.length = (baseZ Z).length := l2.trans (baseZ_len Z).symm
    refine ⟨base_fits Z, ?_, fun i => by have := b1 i; simp only; omega⟩
    have hc : ¬ f.cst ≤ max g.cst (topF g + 1) := fun hc => hn ⟨hall, hc⟩
    have h1 := vF_cst p1
    have h2 : vF g (baseZ Z) ≤ max g.cst (topF g + 1) := (vF_le p2).2 ⟨by omega, fun i hi => by
      have := b1 i
      have := top_ge (f := g) i
      omega⟩
    simp only
    omega
  | some k =>
    obtain ⟨j, hj, hjl, hlt⟩ := moreAt_some (l1.trans l2.symm) hm
    rw [Nat.zero_add] at hj
    subst hj
    simp only
    have gj := hgi k
    have hZk : Z.getD k false = false := by
      cases hzk : Z.getD k false with
      | false => rfl
      | true => have := hz k hzk; omega
    obtain ⟨v, hv⟩ : ∃ v, v = (baseZ Z).set k (greatF g) := ⟨_, rfl⟩
    have hvl : v.length = Z.length := by rw [hv, List.length_set, baseZ_len]
    have hvg : ∀ i : Nat, v.getD i 0 = if k = i then greatF g else (baseZ Z).getD i 0 := fun i => by
      rw [hv, set_getD]
      by_cases hki : k = i
      · rw [if_pos ⟨hki, by rw [baseZ_len]; omega⟩, if_pos hki]
      · rw [if_neg (fun hh => hki hh.1), if_neg hki]
    rw [← hv]
    have p1 : f.offs.length = v.length := l1.trans hvl.symm
    have p2 : g.offs.length = v.length := l2.trans hvl.symm
    refine ⟨⟨hvl, fun i hi => ?_⟩, ?_, fun i => ?_⟩
    · rw [hvg]
      by_cases hki : k = i
      · subst hki
        rw [hZk]
        simp
        omega
      · rw [if_neg hki]
        exact (base_fits Z).2 i hi
    · have h1 := vF_at p1 k (by omega)
      rw [hvg, if_pos rfl] at h1
      have h2 : vF g v ≤ greatF g + f.offs.getD k (-1) - 1 := (vF_le p2).2 ⟨by omega, fun i hi => by
        rw [hvg]
        by_cases hki : k = i
        · subst hki
          rw [if_pos rfl]
          omega
        · rw [if_neg hki]
          have := b1 i
          have := top_ge (f := g) i
          omega⟩
      omega
    · rw [hvg]
      have := b1 i
      split <;> omega
theorem badAt_some : ∀ {x y : List F} {i k : Nat}, x.length = y.length → badAt x y i = some k → ∃ j : Nat, k = i + j ∧ ∃ (h1 : j < x.length) (h2 : j < y.length), leqF x[j] y[j] = false
  | [], [], _, _, _, h => by simp [badAt] at h
  | [], _ :: _, _, _, h, _ => by simp at h
  | _ :: _, [], _, _, h, _ => by simp at h
  | a :: x, b :: y, i, k, hl, h => by
    rw [badAt] at h
    split at h
    · obtain ⟨j, h1, h2, h3, h4⟩ := badAt_some (by simpa using hl) h
      exact ⟨j + 1, by omega, by simpa using h2, by simpa using h3, by simpa using h4⟩
    · rename_i hlt
      injection h with h
      have h0 : leqF a b = false := by simpa using hlt
      exact ⟨0, by omega, by simp, by simp, h0⟩
theorem bad_case {a b : L} {n k : Nat} (h : badAt (casesF a n) (casesF b n) 0 = some k) : k < 2 ^ n ∧ leqF (flattenF a (caseP k n)) (flattenF b (caseP k n)) = false := by
  have h1 := casesF_len a n
  have h2 := casesF_len b n
  obtain ⟨j, hj, q1, q2, q3⟩ := badAt_some (by omega) h
  rw [Nat.zero_add] at hj
  subst hj
  rw [casesF_at (by omega), casesF_at (by omega)] at q3
  exact ⟨by omega, q3⟩
theorem case3 (Z : List Bool) (h : Z.length = 3) : ∃ k, k < 8 ∧ Z = caseP k 3 := by
  match Z, h with
  | [a, b, c], _ =>
    refine ⟨a.toNat + 2 * b.toNat + 4 * c.toNat, ?_, ?_⟩
    · cases a <;> cases b <;> cases c <;> decide
    · cases a <;> cases b <;> cases c <;> decide
theorem leq_true {A B : L} (rA : RightS A (3 : Nat) 0 = true) (rB : RightS B (3 : Nat) 0 = true) (h : leqB A B 3 = true) {p : List Int} (hp : p.length = 3) (hn : Nats p) : lvS A p [] ≤ lvS B p [] := by
  obtain ⟨k, hk, hZ⟩ := case3 (p.map fun x => decide (x = 0)) (by simp [hp])
  have hF : Fits (caseP k 3) p := by
    rw [← hZ]
    refine ⟨by simp, fun i hi => ?_⟩
    have hi' : i < p.length := by simpa using hi
    have := hn _ (List.getElem_mem hi')
    by_cases h0 : p[i] = 0 <;> simp [hi', h0]
    omega
  have fa := flatten_len (l := A) (Z := caseP k 3) (by rw [caseP_len]; exact rA)
  have fb := flatten_len (l := B) (Z := caseP k 3) (by rw [caseP_len]; exact rB)
  have ra := (RightS_ok (q := 0) rA).2
  have rb := (RightS_ok (q := 0) rB).2
  have ra' : rightS A (caseP k 3).length 0 12 = true := by rw [caseP_len]; exact ra
  have rb' : rightS B (caseP k 3).length 0 12 = true := by rw [caseP_len]; exact rb
  rw [← flatten_val ra' hF, ← flatten_val rb' hF]
  refine leq_fits fa.2 fb.2 (by rw [fa.1, fb.1]) (leqB_iff.1 h k (by omega)) (by rw [fa.1, caseP_len, hp]) fun i hi => ?_
  have hil : i < (caseP k 3).length := by
    refine Classical.byContradiction fun hh => hi (out_none (by rw [fb.1]; omega))
  have := hF.2 i hil
  cases hz : (caseP k 3).getD i false with
  | false => rw [hz] at this; simpa using this
  | true => exact (hi (off_none rb' i hz)).elim
theorem leq_false {A B : L} (rA : RightS A (3 : Nat) 0 = true) (rB : RightS B (3 : Nat) 0 = true) {k : Nat} (h : badAt (casesF A 3) (casesF B 3) 0 = some k) :
    (leqAt A B 3 k).length = 3 ∧ Nats (leqAt A B 3 k) ∧ lvS B (leqAt A B 3 k) [] < lvS A (leqAt A B 3 k) [] := by
  obtain ⟨hk, hb⟩ := bad_case h
  have fa := flatten_len (l := A) (Z := caseP k 3) (by rw [caseP_len]; exact rA)
  have fb := flatten_len (l := B) (Z := caseP k 3) (by rw [caseP_len]; exact rB)
  have ra' : rightS A (caseP k 3).length 0 12 = true := by rw [caseP_len]; exact (RightS_ok (q := 0) rA).2
  have rb' : rightS B (caseP k 3).length 0 12 = true := by rw [caseP_len]; exact (RightS_ok (q := 0) rB).2
  obtain ⟨q1, q2, q3⟩ := against_more fa.2 fb.2 fa.1 fb.1 (off_none ra') hb
  rw [flatten_val ra' q1, flatten_val rb' q1] at q2
  have hg := right_F fb.2
  refine ⟨by unfold leqAt; rw [againstS_len, caseP_len], nats_small (M := 1003) (by omega) fun i => ?_, q2⟩
  have := q3 i
  have hgr : greatF (flattenF B (caseP k 3)) ≤ 1003 := by unfold greatF; omega
  show 0 ≤ (againstS _ _ _).getD i 0 ∧ (againstS _ _ _).getD i 0 ≤ 1003
  omega
set_option maxRecDepth 20000 in
set_option maxHeartbeats 4000000 in
theorem law07_LeqTrue.a (l k : List Nat) (hl : Byt l) (hk : Byt k) (ll : l.length ≤ 9223372036854775807) (lk : k.length ≤ 9223372036854775807) : Ans ctx law07_LeqTrue.n [sV cU l, sV cU k] (.b true) := by
  refine ans law07_LeqTrue.f ?_
  have qA : Ans ctx law02_Made.n [sV cU l, .i .i64 3, .i .i64 0] (.ag (cL (madeS l 3 0))) := law02_Made.a l hl 3 0 (by omega) (by omega)
  have qB : Ans ctx law02_Made.n [sV cU k, .i .i64 3, .i .i64 0] (.ag (cL (madeS k 3 0))) := law02_Made.a k hk 3 0 (by omega) (by omega)
  have oA := madeS_ok l 3 0 (by omega) (by omega)
  have oB := madeS_ok k 3 0 (by omega) (by omega)
  have made3R : ∀ l : List Nat, RightS (madeS l 3 0) (3 : Nat) (0 : Nat) = true := fun l => RightS_of (by omega) (by omega) (by have := madeS_sz l 3 0; omega) (rightS_up _ _ _ _ _ (by omega) (madeS_right l 3 0))
  have rA := made3R l
  have rB := made3R k
  generalize madeS l 3 0 = A at *
  generalize madeS k 3 0 = B at *
  have h1 := leq_Leq.a A B oA oB 3
  have e3 : (3 : Int).toNat = 3 := rfl
  unfold leqV at h1
  rw [if_pos ⟨rA, rB⟩, e3] at h1
  have ev : ∀ X : L, X.Ok → RightS X (3 : Nat) (0 : Nat) = true → ∀ p : List Int, p.length = 3 → Nats p → Ans ctx ref02_Eval.n [.ag (cL X), sV cI p, .sl [] 0] (.tu [.i .i64 (lvS X p []), .i .i64 0]) := fun X oX rX p hp hn => by
    have h := ref02_Eval.a X oX p [] (by omega) (by simp)
    rw [evalS_ok hp rfl rX hn (by intro a ha; simp at ha)] at h
    exact h
  unfold leqR at h1
  cases hb : badAt (casesF A 3) (casesF B 3) 0 with
  | some k =>
    obtain ⟨v1, v2, v3⟩ := leq_false rA rB hb
    rw [hb] at h1
    simp only at h1
    generalize leqAt A B 3 k = v at *
    have eA := ev A oA rA v v1 v2
    have eB := ev B oB rB v v1 v2
    simp +contextual (disch := omega) [Nat.add_assoc, Int.add_assoc, if_pos, if_neg, -Int.not_lt, -Int.not_le, -Nat.not_lt, -Nat.not_le, -List.length_flatMap, law07_LeqTrue.c, ansK law07_awake.a, ansK qA, ansK qB, ansK h1, ansK eA, ansK eB]
    exact v3
  | none =>
    have hL : leqB A B 3 = true := by unfold leqB; rw [hb]; rfl
    rw [hb] at h1
    simp only at h1
    obtain ⟨few, hfw⟩ : ∃ few : List Int, few = [0, 1, 2, 3, 40] := ⟨_, rfl⟩
    have hfc : [V.i .i64 0, V.i .i64 1, V.i .i64 2, V.i .i64 3, V.i .i64 40] = few.flatMap cI := by rw [hfw]; rfl
    have hfl : few.length = 5 := by rw [hfw]; rfl
    have hfn : ∀ x ∈ few, 0 ≤ x ∧ x ≤ 40 := by rw [hfw]; simp
    clear hfw
    simp +contextual (disch := omega) [Nat.add_assoc, Int.add_assoc, if_pos, if_neg, -Int.not_lt, -Int.not_le, -Nat.not_lt, -Nat.not_le, -List.length_flatMap, law07_LeqTrue.c, ansK law07_awake.a, ansK qA, ansK qB, ansK h1, hfc]
    refine for_w (fun i e m x => e 5 = .b true ∧ e 6 = .p 6 0 ∧ e 7 = .p 7 0 ∧ e 9 = sV cI [] ∧ e 15 = .ms 23 0 5 1 ∧ e 16 = .i .i64 i ∧ 26 ≤ x ∧ m 6 = some (.cells (cL A) false) ∧ m 7 = some (.cells (cL B) false) ∧ m 23 = some (.cells (few.flatMap cI) false)) 125 ?_ ?_ ?_
    · simp +contextual (disch := omega) [Nat.add_assoc, Int.add_assoc, if_pos, if_neg, -Int.not_lt, -Int.not_le, -Nat.not_lt, -Nat.not_le, -List.length_flatMap]
    · rintro i e m x hi ⟨g5, g6, g7, g9, g15, g16, gx, y6, y7, y23⟩
      obtain ⟨a, ha⟩ : ∃ a, a = i % 5 := ⟨_, rfl⟩
      obtain ⟨b, hb2⟩ : ∃ b, b = i / 5 % 5 := ⟨_, rfl⟩
      obtain ⟨c, hc⟩ : ∃ c, c = i / 25 := ⟨_, rfl⟩
      have ha5 : a < few.length := by omega
      have hb5 : b < few.length := by omega
      have hc5 : c < few.length := by omega
      have ta : ((i : Int)).tmod 5 = (a : Int) := by rw [Int.tmod_eq_emod_of_nonneg (by omega)]; omega
      have tb : ((i : Int) / 5).tmod 5 = (b : Int) := by rw [Int.tmod_eq_emod_of_nonneg (by omega)]; omega
      have tc : (i : Int) / 25 = (c : Int) := by omega
      have na := hfn _ (List.getElem_mem ha5)
      have nb := hfn _ (List.getElem_mem hb5)
      have nc := hfn _ (List.getElem_mem hc5)
      have hcl : (few.flatMap cI).length = 5 := by rw [flatI_len, hfl]
      have ra : ∀ h, (few.flatMap cI)[a]'h = .i .i64 few[a] := fun h => flatI_get h
      have rb : ∀ h, (few.flatMap cI)[b]'h = .i .i64 few[b] := fun h => flatI_get h
      have rc : ∀ h, (few.flatMap cI)[c]'h = .i .i64 few[c] := fun h => flatI_get h
      have hnp : Nats [few[a], few[b], few[c]] := by intro z hz; simp at hz; omega
      have eA := ev A oA rA _ rfl hnp
      have eB := ev B oB rB _ rfl hnp
      have hle := leq_true rA rB hL (p := [few[a], few[b], few[c]]) rfl hnp
      generalize few[a] = u at *
      generalize few[b] = v at *
      generalize few[c] = s at *
      have hs3 : sV cI [u, v, s] = .sl [.i .i64 u, .i .i64 v, .i .i64 s] 3 := rfl
      rw [hs3] at eA eB
      simp +contextual (disch := omega) [Nat.add_assoc, Int.add_assoc, if_pos, if_neg, -Int.not_lt, -Int.not_le, -Nat.not_lt, -Nat.not_le, -List.length_flatMap, law07_LeqTrue.b1, g5, g6, g7, g9, g15, g16, hi, y6, y7, y23, ta, tb, tc, hcl, hfl, ra, rb, rc, ansK eA, ansK eB]

    · rintro e m x ⟨g5, g6, g7, g9, g15, g16, gx, y6, y7, y23⟩
      simp +contextual (disch := omega) [Nat.add_assoc, Int.add_assoc, if_pos, if_neg, -Int.not_lt, -Int.not_le, -Nat.not_lt, -Nat.not_le, -List.length_flatMap, law07_LeqTrue.b1, g5, g6, g7, g9, g15, g16]
end Pi
