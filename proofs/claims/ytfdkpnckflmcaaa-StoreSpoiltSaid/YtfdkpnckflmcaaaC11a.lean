/- Contracts: stores (layer 11): New, Right, Same. -/
import Derived.Test.YtfdkpnckflmcaaaC09d
import Derived.Test.YtfdkpnckflmcaaaEnc
import Derived.Test.YtfdkpnckflmcaaaFw4
set_option linter.unusedSimpArgs false
set_option linter.unusedVariables false
namespace Pi
def rightS (s : St) : Bool := rightC s.vars s.cl && (solveC s.vars.toNat s.cl).2.1 && decide ((solveC s.vars.toNat s.cl).1 = s.md)
theorem solveC_len (vars : Int) (l : List C) (h : rightC vars l = true) : (solveC vars.toNat l).1.length ≤ 16 := by
  obtain ⟨r1, r2, r3, r4⟩ := right_ok h
  have r4' : ∀ c ∈ l, okC vars.toNat c = true := fun c hc => okC_mono (by omega) (r4 c hc)
  rcases solve_spec (n := vars.toNat) (l := l) (by omega) r4' with ⟨_, h2, _⟩ | ⟨_, h2, _⟩
  · rw [h2.len, noughts_len]; omega
  · rw [h2]; simp
/-- No list is so long that its length is no number. -/
def St.Sz (s : St) : Prop := s.cl.length ≤ 9223372036854775807 ∧ ∀ c ∈ s.cl, c.frm.length ≤ 9223372036854775807
theorem ref11_Right.a (s : St) (hs : s.Sz) : Ans ctx ref11_Right.n [.ag (cS s)] (.b (rightS s)) := by
  refine ans ref11_Right.f ?_
  have h := ref09_Solve.a s.vars s.cl hs.1 hs.2
  unfold rightS
  unfold solveV at h
  cases hr : rightC s.vars s.cl with
  | false =>
    rw [hr] at h
    simp +contextual (disch := omega) [Nat.add_assoc, Int.add_assoc, if_pos, if_neg, -Int.not_lt, -Int.not_le, -Nat.not_lt, -Nat.not_le, -List.length_flatMap, ref11_Right.c, ansK h]
  | true =>
    rw [hr] at h
    have hl := solveC_len s.vars s.cl hr
    simp +contextual (disch := omega) [Nat.add_assoc, Int.add_assoc, if_pos, if_neg, -Int.not_lt, -Int.not_le, -Nat.not_lt, -Nat.not_le, -List.length_flatMap, ref11_Right.c, ansK h, ansK (ref08_Ints.a (solveC s.vars.toNat s.cl).1 s.md (by omega))]
theorem eqA (a b : A) : eqQ (.many [.i, .i]) (.ag (cA a)) (.ag (cA b)) = some (decide (a = b)) := by
  obtain ⟨v, o⟩ := a
  obtain ⟨v', o'⟩ := b
  simp only [eqQ, cA, eqL, eqK, Option.bind_some, A.mk.injEq]
  by_cases h1 : v = v' <;> by_cases h2 : o = o' <;> simp [h1, h2]
theorem slices_Equal_int.a (a b : List Int) (ha : a.length ≤ 1000000) : Ans ctx slices_Equal_int.n [sV cI a, sV cI b] (.b (decide (a = b))) := by
  refine ans slices_Equal_int.f ?_
  by_cases hl : a.length = b.length
  · simp +contextual (disch := omega) [Nat.add_assoc, Int.add_assoc, if_pos, if_neg, -Int.not_lt, -Int.not_le, -Nat.not_lt, -Nat.not_le, -List.length_flatMap, slices_Equal_int.c, hl]
    refine for_w (fun i e m x => e 0 = sV cI a ∧ e 1 = sV cI b ∧ e 12 = .i .i64 b.length ∧ e 13 = .i .i64 i ∧ a.take i = b.take i) a.length ?_ ?_ ?_
    · simp +contextual (disch := omega) [Nat.add_assoc, Int.add_assoc, if_pos, if_neg, -Int.not_lt, -Int.not_le, -Nat.not_lt, -Nat.not_le, -List.length_flatMap, hl]
    · rintro i e m x hi ⟨g1, g2, g12, g3, g4⟩
      have hi' : i < b.length := by omega
      by_cases he : a[i] = b[i]
      · have : a.take (i + 1) = b.take (i + 1) := by rw [List.take_succ_eq_append_getElem hi, List.take_succ_eq_append_getElem hi', g4, he]
        simp +contextual (disch := omega) [Nat.add_assoc, Int.add_assoc, if_pos, if_neg, -Int.not_lt, -Int.not_le, -Nat.not_lt, -Nat.not_le, -List.length_flatMap, slices_Equal_int.b1, g1, g2, g12, g3, hi, hi', he, this]
      · have : a ≠ b := fun h => he (by subst h; rfl)
        simp +contextual (disch := omega) [Nat.add_assoc, Int.add_assoc, if_pos, if_neg, -Int.not_lt, -Int.not_le, -Nat.not_lt, -Nat.not_le, -List.length_flatMap, slices_Equal_int.b1, g1, g2, g12, g3, hi, hi', he, this]
    · rintro e m x ⟨g1, g2, g12, g3, g4⟩
      rw [List.take_length, hl, List.take_length] at g4
      simp +contextual (disch := omega) [Nat.add_assoc, Int.add_assoc, if_pos, if_neg, -Int.not_lt, -Int.not_le, -Nat.not_lt, -Nat.not_le, -List.length_flatMap, slices_Equal_int.b1, g1, g2, g12, g3, g4, hl]
  · have : a ≠ b := fun h => hl (by rw [h])
    simp +contextual (disch := omega) [Nat.add_assoc, Int.add_assoc, if_pos, if_neg, -Int.not_lt, -Int.not_le, -Nat.not_lt, -Nat.not_le, -List.length_flatMap, slices_Equal_int.c, this, hl]
theorem store_Right.a (s : St) (hs : s.Sz) : Ans ctx store_Right.n [.ag (cS s)] (.b (rightS s)) := by
  refine ans store_Right.f ?_
  have h := solve_Solve.a s.vars s.cl hs.1 hs.2
  unfold rightS
  unfold solveV at h
  cases hr : rightC s.vars s.cl with
  | false =>
    rw [hr] at h
    simp +contextual (disch := omega) [Nat.add_assoc, Int.add_assoc, if_pos, if_neg, -Int.not_lt, -Int.not_le, -Nat.not_lt, -Nat.not_le, -List.length_flatMap, store_Right.c, ansK h]
  | true =>
    rw [hr] at h
    have hl := solveC_len s.vars s.cl hr
    simp +contextual (disch := omega) [Nat.add_assoc, Int.add_assoc, if_pos, if_neg, -Int.not_lt, -Int.not_le, -Nat.not_lt, -Nat.not_le, -List.length_flatMap, store_Right.c, ansK h, ansK (slices_Equal_int.a (solveC s.vars.toNat s.cl).1 s.md (by omega))]
set_option maxHeartbeats 1000000 in
theorem ref11_Same.a (s t : St) (hs : s.md.length ≤ 1000000) (hc : s.cl.length ≤ 1000000) (hf : ∀ c ∈ s.cl, c.frm.length ≤ 9223372036854775807) : Ans ctx ref11_Same.n [.ag (cS s), .ag (cS t)] (.b (decide (s = t))) := by
  refine ans ref11_Same.f ?_
  have hI := ref08_Ints.a s.md t.md hs
  have hne : (s.vars ≠ t.vars ∨ s.md ≠ t.md ∨ s.cl.length ≠ t.cl.length ∨ s.cl ≠ t.cl) → decide (s = t) = false := by
    intro h
    rw [decide_eq_false_iff_not]
    rintro rfl
    rcases h with h | h | h | h <;> exact h rfl
  by_cases h1 : s.vars = t.vars
  · by_cases h2 : s.md = t.md
    · have hI' := ref08_Ints.a t.md t.md (by rw [← h2]; exact hs)
      by_cases h3 : s.cl.length = t.cl.length
      · simp +contextual (disch := omega) [Nat.add_assoc, Int.add_assoc, if_pos, if_neg, -Int.not_lt, -Int.not_le, -Nat.not_lt, -Nat.not_le, -List.length_flatMap, ref11_Same.c, h1, h2, h3, ansK hI']
        refine for_w (fun i e m x => e 2 = .p 0 0 ∧ e 3 = .p 1 0 ∧ e 5 = .i .i64 i ∧ m 0 = some (.cells (cS s) false) ∧ m 1 = some (.cells (cS t) false) ∧ 2 ≤ x ∧ s.cl.take i = t.cl.take i) s.cl.length ?_ ?_ ?_
        · simp +contextual (disch := omega) [Nat.add_assoc, Int.add_assoc, if_pos, if_neg, -Int.not_lt, -Int.not_le, -Nat.not_lt, -Nat.not_le, -List.length_flatMap]
        · rintro i e m x hi ⟨g2, g3, g5, g0, g1, gx, gt⟩
          have hi' : i < t.cl.length := by omega
          have hd : s.cl[i] ≠ t.cl[i] → decide (s = t) = false := fun h => hne (.inr (.inr (.inr fun e => h (by simp only [e]))))
          by_cases q1 : s.cl[i].to = t.cl[i].to
          · by_cases q2 : s.cl[i].frm.length = t.cl[i].frm.length
            · simp +contextual (disch := omega) [Nat.add_assoc, Int.add_assoc, if_pos, if_neg, -Int.not_lt, -Int.not_le, -Nat.not_lt, -Nat.not_le, -List.length_flatMap, ref11_Same.b2, g2, g3, g5, g0, g1, hi, hi', eqA, q1, q2]
              have hfl := hf _ (List.getElem_mem hi)
              obtain ⟨y, hy⟩ : ∃ y, y = x + 15 := ⟨_, rfl⟩
              refine for_w (fun j e m' x' => e 2 = .p 0 0 ∧ e 3 = .p 1 0 ∧ e 5 = .i .i64 i ∧ e 6 = .p y 0 ∧ e 7 = .p (y + 1) 0 ∧ e 8 = .i .i64 j ∧ m' 0 = some (.cells (cS s) false) ∧ m' 1 = some (.cells (cS t) false) ∧ m' y = some (.cells (cC s.cl[i]) false) ∧ m' (y + 1) = some (.cells (cC t.cl[i]) false) ∧ 2 ≤ x' ∧
                s.cl[i].frm.take j = t.cl[i].frm.take j) s.cl[i].frm.length ?_ ?_ ?_
              · subst hy
                simp +contextual (disch := omega) [Nat.add_assoc, Int.add_assoc, if_pos, if_neg, -Int.not_lt, -Int.not_le, -Nat.not_lt, -Nat.not_le, -List.length_flatMap, g2, g3, g5, g0, g1]
              · rintro j e m' x' hj ⟨z2, z3, z5, z6, z7, z8, y0, y1, y2, y3, zx, zt⟩
                have hj' : j < t.cl[i].frm.length := by omega
                by_cases q3 : s.cl[i].frm[j] = t.cl[i].frm[j]
                · have : s.cl[i].frm.take (j + 1) = t.cl[i].frm.take (j + 1) := by rw [List.take_succ_eq_append_getElem hj, List.take_succ_eq_append_getElem hj', zt, q3]
                  simp +contextual (disch := omega) [Nat.add_assoc, Int.add_assoc, if_pos, if_neg, -Int.not_lt, -Int.not_le, -Nat.not_lt, -Nat.not_le, -List.length_flatMap, ref11_Same.b1, z2, z3, z5, z6, z7, z8, y0, y1, y2, y3, hj, hj', eqA, q3, this]
                · have hz := hd (fun e => q3 (by simp only [e]))
                  simp +contextual (disch := omega) [Nat.add_assoc, Int.add_assoc, if_pos, if_neg, -Int.not_lt, -Int.not_le, -Nat.not_lt, -Nat.not_le, -List.length_flatMap, ref11_Same.b1, z2, z3, z5, z6, z7, z8, y0, y1, y2, y3, hj, hj', eqA, q3, hz]
              · rintro e m' x' ⟨z2, z3, z5, z6, z7, z8, y0, y1, y2, y3, zx, zt⟩
                rw [List.take_length, q2, List.take_length] at zt
                have hce : s.cl[i] = t.cl[i] := by
                  cases hu : s.cl[i]
                  cases hv : t.cl[i]
                  rw [hu, hv] at q1 zt
                  simp only at q1 zt
                  rw [q1, zt]
                have : s.cl.take (i + 1) = t.cl.take (i + 1) := by rw [List.take_succ_eq_append_getElem hi, List.take_succ_eq_append_getElem hi', gt, hce]
                simp +contextual (disch := omega) [Nat.add_assoc, Int.add_assoc, if_pos, if_neg, -Int.not_lt, -Int.not_le, -Nat.not_lt, -Nat.not_le, -List.length_flatMap, ref11_Same.b1, z2, z3, z5, z6, z7, z8, y0, y1, y2, y3, this]
            · have hz := hd (fun e => q2 (by rw [e]))
              simp +contextual (disch := omega) [Nat.add_assoc, Int.add_assoc, if_pos, if_neg, -Int.not_lt, -Int.not_le, -Nat.not_lt, -Nat.not_le, -List.length_flatMap, ref11_Same.b2, g2, g3, g5, g0, g1, hi, hi', eqA, q1, q2, hz]
          · have hz := hd (fun e => q1 (by rw [e]))
            simp +contextual (disch := omega) [Nat.add_assoc, Int.add_assoc, if_pos, if_neg, -Int.not_lt, -Int.not_le, -Nat.not_lt, -Nat.not_le, -List.length_flatMap, ref11_Same.b2, g2, g3, g5, g0, g1, hi, hi', eqA, q1, hz]
        · rintro e m x ⟨g2, g3, g5, g0, g1, gx, gt⟩
          simp +contextual (disch := omega) [Nat.add_assoc, Int.add_assoc, if_pos, if_neg, -Int.not_lt, -Int.not_le, -Nat.not_lt, -Nat.not_le, -List.length_flatMap, ref11_Same.b2, g2, g3, g5, g0, g1]
          rw [List.take_length, h3, List.take_length] at gt
          cases s
          cases t
          simp only at h1 h2 gt
          rw [h1, h2, gt]
      · simp +contextual (disch := omega) [Nat.add_assoc, Int.add_assoc, if_pos, if_neg, -Int.not_lt, -Int.not_le, -Nat.not_lt, -Nat.not_le, -List.length_flatMap, ref11_Same.c, h1, h2, h3, ansK hI', hne (.inr (.inr (.inl h3)))]
    · simp +contextual (disch := omega) [Nat.add_assoc, Int.add_assoc, if_pos, if_neg, -Int.not_lt, -Int.not_le, -Nat.not_lt, -Nat.not_le, -List.length_flatMap, ref11_Same.c, h1, h2, ansK hI, hne (.inr (.inl h2))]
  · simp +contextual (disch := omega) [Nat.add_assoc, Int.add_assoc, if_pos, if_neg, -Int.not_lt, -Int.not_le, -Nat.not_lt, -Nat.not_le, -List.length_flatMap, ref11_Same.c, h1, hne (.inl h1)]
end Pi


set_option linter.unusedSimpArgs false
set_option linter.unusedVariables false
namespace Pi
/-- Stores that are alike at some places, but for what may be written to. -/
def Ag (A : Nat → Prop) (m m' : Sto) : Prop := ∀ j, A j → bare (m' j) = bare (m j)
theorem Ag.refl (A : Nat → Prop) (m : Sto) : Ag A m m := fun _ _ => rfl
theorem Ag.trans {A : Nat → Prop} {m m' m2 : Sto} (h : Ag A m m') (k : Ag A m' m2) : Ag A m m2 := fun j hj => (k j hj).trans (h j hj)
theorem Ag.mono {A B : Nat → Prop} {m m' : Sto} (h : Ag A m m') (k : ∀ j, B j → A j) : Ag B m m' := fun j hj => h j (k j hj)
theorem Ag.eq {A : Nat → Prop} {m m' : Sto} (h : ∀ j, A j → m' j = m j) : Ag A m m' := fun j hj => by rw [h j hj]
theorem Ag.aft {A : Nat → Prop} (w : V) (m : Sto) (ids : List Nat) : Ag A m (aft w m ids) := fun j _ => bare_aft w ids m j
theorem slO_bare (o : Option PObj) (esz off len esz' : Nat) : slO o esz off len esz' = slO (bare o) esz off len esz' := by
  cases o with
  | none => rfl
  | some o => cases o <;> rfl
section
variable {α : Type} {f : α → List V} {k : Nat}
/-- A value that reads as a list, where a store is alike at some places. -/
structure Rl (A : Nat → Prop) (m : Sto) (f : α → List V) (k : Nat) (B : V) (l : List α) : Prop where
  sl : ∀ m', Ag A m m' → slCells m' k B = some (l.flatMap f)
  fz : ∀ m', Ag A m m' → ∀ n, ∃ ids, frzW (der m' (n + 1)) B = some (sV f l, ids) ∧ ∀ i ∈ ids, A i
  len : lenSl B = some l.length
  stor : B.stor = true
  cells : B.cells = [B]
theorem Rl.up {A : Nat → Prop} {m m' : Sto} {B : V} {l : List α} (h : Rl A m f k B l) (hm : Ag A m m') : Rl A m' f k B l :=
  ⟨fun m2 h2 => h.sl m2 (hm.trans h2), fun m2 h2 => h.fz m2 (hm.trans h2), h.len, h.stor, h.cells⟩
theorem Rl.mono {A A' : Nat → Prop} {m : Sto} {B : V} {l : List α} (h : Rl A m f k B l) (hA : ∀ j, A j → A' j) : Rl A' m f k B l :=
  ⟨fun m2 h2 => h.sl m2 (h2.mono hA), fun m2 h2 n => let ⟨ids, e, hi⟩ := h.fz m2 (h2.mono hA) n; ⟨ids, e, fun i h => hA i (hi i h)⟩, h.len, h.stor, h.cells⟩
theorem Rl.sV [h : Cel f k] (A : Nat → Prop) (m : Sto) (l : List α) : Rl A m f k (sV f l) l :=
  ⟨fun m' _ => slCells_sV m' l, fun m' _ n => ⟨[], by simp [Pi.sV], fun i h => by cases h⟩, rfl, rfl, rfl⟩
theorem Rl.Bf [h : Cel f k] {m : Sto} {B : V} {l : List α} {lo x : Nat} (hB : Bf m B f k l lo x) : Rl (fun j => lo ≤ j ∧ j < x) m f k B l := by
  refine ⟨fun m' hm => ?_, fun m' hm n => ?_, hB.len, hB.stor, hB.cells⟩
  · rcases hB with ⟨rfl, rfl⟩ | ⟨a, cs, rfl, h2, hR, h3, h4⟩
    · rfl
    · have hb := hm a ⟨h3, h4⟩
      rw [h2] at hb
      rw [slCells_ms, slO_bare, hb, ← slO_bare, slO_cells, if_pos ⟨rfl, by rw [Nat.zero_add]; exact hR.le⟩, List.drop_zero, hR.eq]
  · rcases hB with ⟨rfl, rfl⟩ | ⟨a, cs, rfl, h2, hR, h3, h4⟩
    · exact ⟨_, frzW_ns _, fun i h => by cases h⟩
    · have hb := hm a ⟨h3, h4⟩
      rw [h2] at hb
      refine ⟨[a], ?_, fun i hi => by rw [List.mem_singleton.1 hi]; exact ⟨h3, h4⟩⟩
      rw [frzW_ms, der_s, derO_bare, hb, ← derO_bare, derO_cells, hR.fz]
      simp only [Option.bind_some, true_and, List.drop_zero, Nat.zero_add]
      rw [if_pos hR.le, hR.eq]
      rfl
theorem Rl.fz24 {A : Nat → Prop} {m : Sto} {B : V} {l : List α} (h : Rl A m f k B l) : ∃ ids, frzW (der m 24) B = some (Pi.sV f l, ids) ∧ ∀ i ∈ ids, A i := h.fz m (.refl _ _) 23
end
/-- A clause's cells, with its list. -/
def trip (F : V) (c : C) : List V := [F, .i .i64 c.to.var, .i .i64 c.to.off]
def trips : List V → List C → List V
  | F :: fs, c :: cl => trip F c ++ trips fs cl
  | _, _ => []
/-- The lists read as the clauses' lists. -/
def Fr (A : Nat → Prop) (m : Sto) : List V → List C → Prop
  | [], [] => True
  | F :: fs, c :: cl => Rl A m cA 2 F c.frm ∧ Fr A m fs cl
  | _, _ => False
theorem Fr.len {A : Nat → Prop} {m : Sto} : ∀ {fs : List V} {cl : List C}, Fr A m fs cl → fs.length = cl.length
  | [], [], _ => rfl
  | F :: fs, c :: cl, h => by simp [Fr.len h.2]
  | [], _ :: _, h => h.elim
  | _ :: _, [], h => h.elim
theorem Fr.up {A A' : Nat → Prop} {m m' : Sto} (hm : Ag A m m') (hA : ∀ j, A j → A' j) : ∀ {fs : List V} {cl : List C}, Fr A m fs cl → Fr A' m' fs cl
  | [], [], _ => trivial
  | F :: fs, c :: cl, h => ⟨(h.1.up hm).mono hA, Fr.up hm hA h.2⟩
  | [], _ :: _, h => h.elim
  | _ :: _, [], h => h.elim
theorem Fr.app {A : Nat → Prop} {m : Sto} : ∀ {fs gs : List V} {cl dl : List C}, Fr A m fs cl → Fr A m gs dl → Fr A m (fs ++ gs) (cl ++ dl)
  | [], _, [], _, _, k => k
  | F :: fs, _, c :: cl, _, h, k => ⟨h.1, Fr.app h.2 k⟩
  | [], _, _ :: _, _, h, _ => h.elim
  | _ :: _, _, [], _, h, _ => h.elim
theorem Fr.at {A : Nat → Prop} {m : Sto} : ∀ {fs : List V} {cl : List C} {i : Nat} (h : i < cl.length), Fr A m fs cl → ∃ F, fs[i]? = some F ∧ Rl A m cA 2 F cl[i].frm
  | [], [], i, hi, _ => by simp at hi
  | F :: fs, c :: cl, 0, _, h => ⟨F, rfl, h.1⟩
  | F :: fs, c :: cl, i + 1, hi, h => by
    obtain ⟨F', h1, h2⟩ := Fr.at (i := i) (by simpa using hi) h.2
    exact ⟨F', by simpa using h1, by simpa using h2⟩
  | [], _ :: _, _, _, h => h.elim
  | _ :: _, [], _, _, h => h.elim
theorem Fr.sv (A : Nat → Prop) (m : Sto) : ∀ cl : List C, Fr A m (cl.map fun c => sV cA c.frm) cl
  | [] => trivial
  | c :: cl => ⟨Rl.sV A m c.frm, Fr.sv A m cl⟩
theorem trips_sv : ∀ cl : List C, trips (cl.map fun c => sV cA c.frm) cl = cl.flatMap cC
  | [] => rfl
  | c :: cl => by
    rw [List.map_cons, List.flatMap_cons, trips, trips_sv cl]
    rfl
theorem trips_len : ∀ {fs : List V} {cl : List C}, fs.length = cl.length → (trips fs cl).length = cl.length * 3
  | [], [], _ => rfl
  | F :: fs, c :: cl, h => by
    rw [trips, List.length_append, trips_len (by simpa using h)]
    simp [trip]
    omega
  | [], _ :: _, h => by simp at h
  | _ :: _, [], h => by simp at h
theorem trips_app : ∀ {fs gs : List V} {cl dl : List C}, fs.length = cl.length → trips (fs ++ gs) (cl ++ dl) = trips fs cl ++ trips gs dl
  | [], _, [], _, _ => rfl
  | F :: fs, gs, c :: cl, dl, h => by
    rw [List.cons_append, List.cons_append, trips, trips, trips_app (by simpa using h), List.append_assoc]
  | [], _, _ :: _, _, h => by simp at h
  | _ :: _, _, [], _, h => by simp at h
theorem trips_drop : ∀ {fs : List V} {cl : List C} {i : Nat}, fs.length = cl.length → (trips fs cl).drop (i * 3) = trips (fs.drop i) (cl.drop i)
  | fs, cl, 0, _ => by simp
  | [], [], i + 1, _ => by simp [trips]
  | F :: fs, c :: cl, i + 1, h => by
    rw [trips, List.drop_succ_cons, List.drop_succ_cons, ← trips_drop (i := i) (by simpa using h)]
    have e : (i + 1) * 3 = 3 + i * 3 := by omega
    rw [e, ← List.drop_drop]
    rfl
  | [], _ :: _, _ + 1, h => by simp at h
  | _ :: _, [], _ + 1, h => by simp at h
theorem trips_set : ∀ {fs : List V} {cl : List C} {i : Nat} {F : V}, fs.length = cl.length → i < cl.length → (trips fs cl).set (i * 3) F = trips (fs.set i F) cl
  | [], [], i, _, _, hi => by simp at hi
  | G :: fs, c :: cl, 0, F, h, hi => by simp [trips, trip]
  | G :: fs, c :: cl, i + 1, F, h, hi => by
    have e : (i + 1) * 3 = i * 3 + 1 + 1 + 1 := by omega
    rw [List.set_cons_succ, trips, trips, ← trips_set (i := i) (by simpa using h) (by simpa using hi), e]
    rfl
  | [], _ :: _, _, _, h, _ => by simp at h
  | _ :: _, [], _, _, h, _ => by simp at h
theorem Fr.fz {A : Nat → Prop} {m m' : Sto} (hm : Ag A m m') (n : Nat) : ∀ {fs : List V} {cl : List C}, Fr A m fs cl → ∃ ids, frzL (der m' (n + 1)) (trips fs cl) = some (cl.flatMap cC, ids) ∧ ∀ i ∈ ids, A i
  | [], [], _ => ⟨[], rfl, fun i h => by cases h⟩
  | F :: fs, c :: cl, h => by
    obtain ⟨i1, e1, a1⟩ := h.1.fz m' hm n
    obtain ⟨i2, e2, a2⟩ := Fr.fz hm n h.2
    refine ⟨i1 ++ i2, ?_, fun i hi => (List.mem_append.1 hi).elim (a1 i) (a2 i)⟩
    simp only [trips, trip, List.cons_append, List.nil_append, frzL_cons, e1, e2, List.flatMap_cons, cC]
    simp
  | [], _ :: _, h => h.elim
  | _ :: _, [], h => h.elim
/-- A value that reads as a list of clauses. -/
structure Rc (A : Nat → Prop) (m : Sto) (B : V) (cl : List C) (fs : List V) : Prop where
  sl : ∀ m', Ag A m m' → slCells m' 3 B = some (trips fs cl)
  fr : Fr A m fs cl
  fz : ∀ m', Ag A m m' → ∀ n, ∃ ids, frzW (der m' (n + 2)) B = some (Pi.sV cC cl, ids) ∧ ∀ i ∈ ids, A i
  len : lenSl B = some cl.length
  stor : B.stor = true
  cells : B.cells = [B]
theorem Rc.up {A A' : Nat → Prop} {m m' : Sto} {B : V} {cl : List C} {fs : List V} (h : Rc A m B cl fs) (hm : Ag A m m') (hA : ∀ j, A j → A' j) : Rc A' m' B cl fs :=
  ⟨fun m2 h2 => h.sl m2 (hm.trans (h2.mono hA)), h.fr.up hm hA, fun m2 h2 n => let ⟨ids, e, hi⟩ := h.fz m2 (hm.trans (h2.mono hA)) n; ⟨ids, e, fun i h => hA i (hi i h)⟩, h.len, h.stor, h.cells⟩
theorem Rc.sV (A : Nat → Prop) (m : Sto) (cl : List C) : Rc A m (Pi.sV cC cl) cl (cl.map fun c => Pi.sV cA c.frm) :=
  ⟨fun m' _ => by rw [trips_sv]; exact slCells_sV m' cl, Fr.sv A m cl, fun m' _ n => ⟨[], by simp [Pi.sV], fun i h => by cases h⟩, rfl, rfl, rfl⟩
theorem Rc.fz24 {A : Nat → Prop} {m : Sto} {B : V} {cl : List C} {fs : List V} (h : Rc A m B cl fs) : ∃ ids, frzW (der m 24) B = some (Pi.sV cC cl, ids) ∧ ∀ i ∈ ids, A i := h.fz m (.refl _ _) 22
/-- A list of clauses in memory of its own. -/
def Xc (m : Sto) (B : V) (cl : List C) (fs : List V) (lo x : Nat) : Prop :=
  (B = .ns ∧ cl = [] ∧ fs = []) ∨ ∃ a, B = .ms a 0 cl.length 3 ∧ m a = some (.cells (trips fs cl) false) ∧ lo ≤ a ∧ a < x ∧ Fr (fun j => lo ≤ j ∧ j < x ∧ j ≠ a) m fs cl
theorem Xc.nil {m : Sto} {lo x : Nat} : Xc m .ns [] [] lo x := .inl ⟨rfl, rfl, rfl⟩
theorem Xc.rc {m : Sto} {B : V} {cl : List C} {fs : List V} {lo x : Nat} (h : Xc m B cl fs lo x) : Rc (fun j => lo ≤ j ∧ j < x) m B cl fs := by
  rcases h with ⟨rfl, rfl, rfl⟩ | ⟨a, rfl, h2, h3, h4, h5⟩
  · exact ⟨fun m' _ => rfl, trivial, fun m' _ n => ⟨_, frzW_ns _, fun i h => by cases h⟩, rfl, rfl, rfl⟩
  · have hl := trips_len h5.len
    refine ⟨fun m' hm => ?_, h5.up (.refl _ _) (fun j hj => ⟨hj.1, hj.2.1⟩), fun m' hm n => ?_, rfl, rfl, rfl⟩
    · have hb := hm a ⟨h3, h4⟩
      rw [h2] at hb
      rw [slCells_ms, slO_bare, hb, ← slO_bare, slO_cells, if_pos ⟨rfl, by rw [Nat.zero_add, hl]; exact Nat.le_refl _⟩, List.drop_zero, List.take_of_length_le (by rw [hl]; exact Nat.le_refl _)]
    · have hb := hm a ⟨h3, h4⟩
      rw [h2] at hb
      obtain ⟨ids, e2, e3⟩ := h5.fz (m' := m') (hm.mono fun j hj => ⟨hj.1, hj.2.1⟩) n
      refine ⟨a :: ids, ?_, fun i hi => ?_⟩
      rotate_left
      · rcases List.mem_cons.1 hi with rfl | hi
        · exact ⟨h3, h4⟩
        · exact ⟨(e3 i hi).1, (e3 i hi).2.1⟩
      rw [frzW_ms, der_s, derO_bare, hb, ← derO_bare, derO_cells, e2]
      simp only [Option.bind_some, true_and, List.drop_zero, Nat.zero_add]
      rw [if_pos (by rw [flat_len]; exact Nat.le_refl _), List.take_of_length_le (by rw [flat_len]; exact Nat.le_refl _)]
      rfl
theorem Xc.up {m m' : Sto} {B : V} {cl : List C} {fs : List V} {lo lo' x x' : Nat} (h : Xc m B cl fs lo x) (hl : lo' ≤ lo) (hx : x ≤ x') (hm : ∀ j, lo ≤ j → j < x → m' j = m j) : Xc m' B cl fs lo' x' := by
  rcases h with h | ⟨a, h1, h2, h3, h4, h5⟩
  · exact .inl h
  · exact .inr ⟨a, h1, by rw [hm a h3 h4, h2], by omega, by omega, h5.up (.eq fun j hj => hm j hj.1 hj.2.1) (fun j hj => ⟨by omega, by omega, hj.2.2⟩)⟩
theorem Fr.nil {A : Nat → Prop} {m : Sto} {fs : List V} {cl : List C} (h : Fr A m fs cl) (hn : cl.length = 0) : fs = [] ∧ cl = [] := by
  have h1 := h.len
  exact ⟨List.eq_nil_of_length_eq_zero (by omega), List.eq_nil_of_length_eq_zero hn⟩
/-- Clauses more. -/
theorem Xc.ap {m m' : Sto} {B : V} {cl dl : List C} {fs gs : List V} {lo lo1 x slot n : Nat} {K : V → Ws → Prop} {xs : List V} (h : Xc m B cl fs lo1 x) (hm : ∀ j, lo1 ≤ j → j < x → m' j = m j) (hx : x ≤ slot) (hl1 : lo ≤ lo1) (hl2 : lo1 ≤ slot)
    (hxs : xs = trips gs dl) (hn : n = dl.length) (hg : Fr (fun j => lo ≤ j ∧ j < slot ∧ (j < lo1 ∨ x ≤ j)) m' gs dl) (hl : cl.length + dl.length ≤ 2147483648)
    (hK : ∀ B' ws m2, m'.app ws = m2 → Xc m2 B' (cl ++ dl) (fs ++ gs) lo (slot + 1) → (∀ j, j < lo1 → m2 j = m' j) → (∀ j, x ≤ j → j < slot → m2 j = m' j) → K B' ws) : opK (apV m' 3 B xs n slot) K := by
  subst hn hxs
  have hgl := trips_len hg.len
  rcases h with ⟨rfl, rfl, rfl⟩ | ⟨a, rfl, h2, h3, h4, h5⟩
  · by_cases h0 : dl.length = 0
    · obtain ⟨rfl, rfl⟩ := hg.nil h0
      rw [apV_ns, if_pos (by rfl)]
      exact hK _ _ _ rfl Xc.nil (fun _ _ => rfl) (fun _ _ _ => rfl)
    · have hB : dl.length ≤ BIG := by unfold BIG; simp at hl; omega
      rw [apV_ns, if_neg h0, if_pos hB]
      refine hK _ _ _ rfl (.inr ⟨slot, by simp, by rw [sapp_cons, sapp_nil, Sto.seq]; rfl, by omega, by omega, ?_⟩) (fun j hj => ?_) (fun j h1 h2 => ?_)
      · refine hg.up (.eq fun j hj => ?_) (fun j hj => ⟨hj.1, by omega, by omega⟩)
        rw [sapp_cons, sapp_nil, Sto.sne _ _ _ _ (by simp only; omega)]
      · rw [sapp_cons, sapp_nil, Sto.sne _ _ _ _ (by simp only; omega)]
      · rw [sapp_cons, sapp_nil, Sto.sne _ _ _ _ (by simp only; omega)]
  · have hfl := trips_len h5.len
    have ha : m' a = some (.cells (trips fs cl) false) := by rw [hm a h3 h4, h2]
    by_cases h0 : dl.length = 0
    · obtain ⟨rfl, rfl⟩ := hg.nil h0
      rw [apV_ms, if_pos (by rfl)]
      refine hK _ _ _ rfl (.inr ⟨a, by simp, by rw [sapp_nil, ha]; simp, by omega, by omega, ?_⟩) (fun _ _ => rfl) (fun _ _ _ => rfl)
      rw [List.append_nil, List.append_nil]
      exact h5.up (.eq fun j hj => by rw [sapp_nil]; exact hm j hj.1 hj.2.1) (fun j hj => ⟨by omega, by omega, hj.2.2⟩)
    · have hB : cl.length + dl.length ≤ BIG := by unfold BIG; omega
      rw [apV_ms, if_neg h0, ha, apO_cells, if_pos ⟨rfl, by rw [hfl]; exact Nat.le_refl _, hB⟩, List.take_of_length_le (by rw [hfl]; exact Nat.le_refl _)]
      have far : ∀ j, j ≠ a → j ≠ slot → (m'.app [(a, none), (slot, some (.cells (trips fs cl ++ trips gs dl) false))]) j = m' j := by
        intro j q1 q2
        rw [sapp_cons, sapp_cons, sapp_nil, Sto.sne _ _ _ _ q2, Sto.sne _ _ _ _ q1]
      refine hK _ _ _ rfl (.inr ⟨slot, by simp, by rw [sapp_cons, sapp_cons, sapp_nil, Sto.seq, trips_app h5.len], by omega, by omega, ?_⟩) (fun j hj => far j (by omega) (by omega)) (fun j h1 h2 => far j (by omega) (by omega))
      refine Fr.app ?_ ?_
      · exact h5.up (.eq fun j hj => by rw [far j hj.2.2 (by omega)]; exact hm j hj.1 hj.2.1) (fun j hj => ⟨by omega, by omega, by omega⟩)
      · exact hg.up (.eq fun j hj => far j (by omega) (by omega)) (fun j hj => ⟨hj.1, by omega, by omega⟩)
theorem Own.app {x : Nat} : ∀ {ws : Ws} {m : Sto}, Own m x → (∀ a b, (a, b) ∈ ws → ownO x b = true) → Own (m.app ws) x
  | [], m, h, _ => h
  | (a, b) :: r, m, h, k => by
    rw [sapp_cons]
    exact Own.app (h.set (k a b (List.mem_cons_self))) (fun a' b' hb => k a' b' (List.mem_cons_of_mem _ hb))
theorem over_app {x : Nat} : ∀ (a b : List V), overL x (a ++ b) = (overL x a && overL x b)
  | [], b => by simp [overL]
  | c :: a, b => by simp [overL, over_app a b, Bool.and_assoc]
theorem over_flat {α : Type} {f : α → List V} {x : Nat} (h : ∀ a, overL x (f a) = true) : ∀ l : List α, overL x (l.flatMap f) = true
  | [] => rfl
  | a :: l => by rw [List.flatMap_cons, over_app, h a, over_flat h l]; rfl
theorem over_cI (x : Nat) (l : List Int) : overL x (l.flatMap cI) = true := over_flat (fun _ => rfl) l
theorem over_cA (x : Nat) (l : List A) : overL x (l.flatMap cA) = true := over_flat (fun _ => rfl) l
theorem over_trips {x : Nat} : ∀ {fs : List V} {cl : List C}, (∀ F ∈ fs, F.over x = true) → overL x (trips fs cl) = true
  | [], _, _ => by simp [trips, overL]
  | _ :: _, [], _ => by simp [trips, overL]
  | F :: fs, c :: cl, h => by
    rw [trips, over_app, over_trips (fun G hG => h G (List.mem_cons_of_mem _ hG))]
    have := h F (List.mem_cons_self)
    simp [trip, overL, this, V.over]
theorem IfK_pos {p a b : Prop} (h : p) : IfK p a b = a := by simp [IfK, h]
/-- A new list. -/
theorem Bf.new {α : Type} {f : α → List V} {k : Nat} [h : Cel f k] {m' : Sto} (l : List α) {slot n : Nat} {K : V → Ws → Prop} {xs : List V} (hxs : xs = l.flatMap f) (hn : n = l.length) (hl : l.length ≤ 2147483648)
    (hK : ∀ B ws m2, m'.app ws = m2 → (∀ a b, (a, b) ∈ ws → a = slot ∧ b = some (.cells xs false)) → Bf m2 B f k l slot (slot + 1) → (∀ j, j ≠ slot → m2 j = m' j) → (B = .ns ∨ B = .ms slot 0 l.length k) → K B ws) : opK (apV m' k .ns xs n slot) K := by
  subst hn hxs
  by_cases h0 : l.length = 0
  · have := List.eq_nil_of_length_eq_zero h0
    subst this
    rw [apV_ns, if_pos (by rfl)]
    exact hK _ _ _ rfl (fun a b h => by cases h) Bf.nil (fun _ _ => rfl) (.inl rfl)
  · have hB : l.length ≤ BIG := by unfold BIG; omega
    rw [apV_ns, if_neg h0, if_pos hB]
    refine hK _ _ _ rfl (fun a b h => ?_) (Bf.mem (by rw [sapp_cons, sapp_nil, Sto.seq]) rfl rfl (by omega) (by omega)) (fun j hj => ?_) (.inr rfl)
    · simp at h; exact h
    · rw [sapp_cons, sapp_nil, Sto.sne _ _ _ _ (by simpa using hj)]
/-- A list of clauses as it is written. -/
def Yc (m : Sto) (B : V) (cl : List C) (fs : List V) (a : Nat) : Prop := (B = .ns ∧ cl = [] ∧ fs = []) ∨ (B = .ms a 0 cl.length 3 ∧ m a = some (.cells (trips fs cl) false))
theorem Yc.new {m' : Sto} (cl : List C) (fs : List V) {slot n : Nat} {K : V → Ws → Prop} {xs : List V} (hf : fs.length = cl.length) (hxs : xs = trips fs cl) (hn : n = cl.length) (hl : cl.length ≤ 2147483648)
    (hK : ∀ B ws m2, m'.app ws = m2 → (∀ a b, (a, b) ∈ ws → a = slot ∧ b = some (.cells xs false)) → Yc m2 B cl fs slot → (∀ j, j ≠ slot → m2 j = m' j) → K B ws) : opK (apV m' 3 .ns xs n slot) K := by
  subst hn hxs
  by_cases h0 : cl.length = 0
  · have := List.eq_nil_of_length_eq_zero h0
    subst this
    rw [apV_ns, if_pos (by rfl)]
    exact hK _ _ _ rfl (fun a b h => by cases h) (.inl ⟨rfl, rfl, List.eq_nil_of_length_eq_zero (by rw [hf]; rfl)⟩) (fun _ _ => rfl)
  · have hB : cl.length ≤ BIG := by unfold BIG; omega
    rw [apV_ns, if_neg h0, if_pos hB]
    refine hK _ _ _ rfl (fun a b h => ?_) (.inr ⟨rfl, by rw [sapp_cons, sapp_nil, Sto.seq]⟩) (fun j hj => ?_)
    · simp at h; exact h
    · rw [sapp_cons, sapp_nil, Sto.sne _ _ _ _ (by simpa using hj)]
theorem Yc.len {m : Sto} {B : V} {cl : List C} {fs : List V} {a : Nat} (h : Yc m B cl fs a) : lenSl B = some cl.length := by
  rcases h with ⟨rfl, rfl, rfl⟩ | ⟨rfl, _⟩ <;> rfl
theorem Yc.stor {m : Sto} {B : V} {cl : List C} {fs : List V} {a : Nat} (h : Yc m B cl fs a) : B.stor = true := by
  rcases h with ⟨rfl, rfl, rfl⟩ | ⟨rfl, _⟩ <;> rfl
theorem Yc.cells {m : Sto} {B : V} {cl : List C} {fs : List V} {a : Nat} (h : Yc m B cl fs a) : B.cells = [B] := by
  rcases h with ⟨rfl, rfl, rfl⟩ | ⟨rfl, _⟩ <;> rfl
theorem Yc.xc {m : Sto} {B : V} {cl : List C} {fs : List V} {a lo x : Nat} (h : Yc m B cl fs a) (h1 : lo ≤ a) (h2 : a < x) (hf : Fr (fun j => lo ≤ j ∧ j < x ∧ j ≠ a) m fs cl) : Xc m B cl fs lo x := by
  rcases h with h | ⟨h3, h4⟩
  · exact .inl h
  · exact .inr ⟨a, h3, h4, h1, h2, hf⟩
theorem Yc.over {m : Sto} {B : V} {cl : List C} {fs : List V} {a x : Nat} (h : Yc m B cl fs a) (hx : x ≤ a) : B.over x = true := by
  rcases h with ⟨rfl, _, _⟩ | ⟨rfl, _⟩
  · rfl
  · simp [V.over, hx]
theorem ap_of {m : Sto} {k n : Nat} {B : V} (h : lenSl B = some n) : apCells m k B = slCells m k B := by
  cases B <;> first | rfl | cases h
theorem lenV_of {m : Sto} {n : Nat} {B : V} (h : lenSl B = some n) : lenV m B = some n := by
  cases B <;> first | exact h | cases h
/-- A list of clauses in memory of its own: its places. -/
def Xa (A : Nat → Prop) (m : Sto) (B : V) (cl : List C) (fs : List V) : Prop :=
  (B = .ns ∧ cl = [] ∧ fs = []) ∨ ∃ a, B = .ms a 0 cl.length 3 ∧ m a = some (.cells (trips fs cl) false) ∧ A a ∧ Fr (fun j => A j ∧ j ≠ a) m fs cl
theorem Xc.xa {m : Sto} {B : V} {cl : List C} {fs : List V} {lo x : Nat} (h : Xc m B cl fs lo x) : Xa (fun j => lo ≤ j ∧ j < x) m B cl fs := by
  rcases h with h | ⟨a, h1, h2, h3, h4, h5⟩
  · exact .inl h
  · exact .inr ⟨a, h1, h2, ⟨h3, h4⟩, h5.up (.refl _ _) (fun j hj => ⟨⟨hj.1, hj.2.1⟩, hj.2.2⟩)⟩
theorem Xa.up {A A' : Nat → Prop} {m m' : Sto} {B : V} {cl : List C} {fs : List V} (h : Xa A m B cl fs) (hm : ∀ j, A j → m' j = m j) (hA : ∀ j, A j → A' j) : Xa A' m' B cl fs := by
  rcases h with h | ⟨a, h1, h2, h3, h5⟩
  · exact .inl h
  · exact .inr ⟨a, h1, by rw [hm a h3, h2], hA a h3, h5.up (.eq fun j hj => hm j hj.1) (fun j hj => ⟨hA j hj.1, hj.2⟩)⟩
theorem Xa.rc {A : Nat → Prop} {m : Sto} {B : V} {cl : List C} {fs : List V} (h : Xa A m B cl fs) : Rc A m B cl fs := by
  rcases h with ⟨rfl, rfl, rfl⟩ | ⟨a, rfl, h2, h3, h5⟩
  · exact ⟨fun m' _ => rfl, trivial, fun m' _ n => ⟨_, frzW_ns _, fun i h => by cases h⟩, rfl, rfl, rfl⟩
  · have hl := trips_len h5.len
    refine ⟨fun m' hm => ?_, h5.up (.refl _ _) (fun j hj => hj.1), fun m' hm n => ?_, rfl, rfl, rfl⟩
    · have hb := hm a h3
      rw [h2] at hb
      rw [slCells_ms, slO_bare, hb, ← slO_bare, slO_cells, if_pos ⟨rfl, by rw [Nat.zero_add, hl]; exact Nat.le_refl _⟩, List.drop_zero, List.take_of_length_le (by rw [hl]; exact Nat.le_refl _)]
    · have hb := hm a h3
      rw [h2] at hb
      obtain ⟨ids, e2, e3⟩ := h5.fz (m' := m') (hm.mono fun j hj => hj.1) n
      refine ⟨a :: ids, ?_, fun i hi => ?_⟩
      rotate_left
      · rcases List.mem_cons.1 hi with rfl | hi
        · exact h3
        · exact (e3 i hi).1
      rw [frzW_ms, der_s, derO_bare, hb, ← derO_bare, derO_cells, e2]
      simp only [Option.bind_some, true_and, List.drop_zero, Nat.zero_add]
      rw [if_pos (by rw [flat_len]; exact Nat.le_refl _), List.take_of_length_le (by rw [flat_len]; exact Nat.le_refl _)]
      rfl
/-- Clauses more. -/
theorem Xa.ap {A G : Nat → Prop} {m : Sto} {B : V} {cl dl : List C} {fs gs : List V} {slot n : Nat} {K : V → Ws → Prop} {xs : List V} (h : Xa A m B cl fs) (hxs : xs = trips gs dl) (hn : n = dl.length) (hg : Fr G m gs dl) (hAG : ∀ j, A j → ¬ G j) (hsA : ¬ A slot) (hsG : ¬ G slot) (hl : cl.length + dl.length ≤ 2147483648)
    (hK : ∀ B' ws m2, m.app ws = m2 → Xa (fun j => A j ∨ G j ∨ j = slot) m2 B' (cl ++ dl) (fs ++ gs) → (∀ j, ¬ A j → j ≠ slot → m2 j = m j) → K B' ws) : opK (apV m 3 B xs n slot) K := by
  subst hn hxs
  have hgl := trips_len hg.len
  rcases h with ⟨rfl, rfl, rfl⟩ | ⟨a, rfl, h2, h3, h5⟩
  · by_cases h0 : dl.length = 0
    · obtain ⟨rfl, rfl⟩ := hg.nil h0
      rw [apV_ns, if_pos (by rfl)]
      exact hK _ _ _ rfl (.inl ⟨rfl, rfl, rfl⟩) (fun _ _ _ => rfl)
    · have hB : dl.length ≤ BIG := by unfold BIG; simp at hl; omega
      rw [apV_ns, if_neg h0, if_pos hB]
      have far : ∀ j, j ≠ slot → (m.app [(slot, some (.cells (trips gs dl) false))]) j = m j := by
        intro j q
        rw [sapp_cons, sapp_nil, Sto.sne _ _ _ _ q]
      refine hK _ _ _ rfl (.inr ⟨slot, by simp, by rw [sapp_cons, sapp_nil, Sto.seq]; rfl, .inr (.inr rfl), ?_⟩) (fun j _ hj => far j hj)
      exact hg.up (.eq fun j hj => far j (fun e => hsG (e ▸ hj))) (fun j hj => ⟨.inr (.inl hj), fun e => hsG (e ▸ hj)⟩)
  · have hfl := trips_len h5.len
    by_cases h0 : dl.length = 0
    · obtain ⟨rfl, rfl⟩ := hg.nil h0
      rw [apV_ms, if_pos (by rfl)]
      refine hK _ _ _ rfl (.inr ⟨a, by simp, by rw [sapp_nil, h2]; simp, .inl h3, ?_⟩) (fun _ _ _ => rfl)
      rw [List.append_nil, List.append_nil]
      exact h5.up (.refl _ _) (fun j hj => ⟨.inl hj.1, hj.2⟩)
    · have hB : cl.length + dl.length ≤ BIG := by unfold BIG; omega
      rw [apV_ms, if_neg h0, h2, apO_cells, if_pos ⟨rfl, by rw [hfl]; exact Nat.le_refl _, hB⟩, List.take_of_length_le (by rw [hfl]; exact Nat.le_refl _)]
      have far : ∀ j, j ≠ a → j ≠ slot → (m.app [(a, none), (slot, some (.cells (trips fs cl ++ trips gs dl) false))]) j = m j := by
        intro j q1 q2
        rw [sapp_cons, sapp_cons, sapp_nil, Sto.sne _ _ _ _ q2, Sto.sne _ _ _ _ q1]
      refine hK _ _ _ rfl (.inr ⟨slot, by simp, by rw [sapp_cons, sapp_cons, sapp_nil, Sto.seq, trips_app h5.len], .inr (.inr rfl), Fr.app ?_ ?_⟩) (fun j h1 h2 => far j (fun e => h1 (e ▸ h3)) h2)
      · exact h5.up (.eq fun j hj => far j hj.2 (fun e => hsA (e ▸ hj.1))) (fun j hj => ⟨.inl hj.1, fun e => hsA (e ▸ hj.1)⟩)
      · exact hg.up (.eq fun j hj => far j (fun e => hAG a h3 (e ▸ hj)) (fun e => hsG (e ▸ hj))) (fun j hj => ⟨.inr (.inl hj), fun e => hsG (e ▸ hj)⟩)
end Pi


set_option linter.unusedSimpArgs false
set_option linter.unusedVariables false
namespace Pi
set_option maxHeartbeats 1000000 in
theorem store_own.w {m : Sto} {x : Nat} {K : CR → Sto → Nat → Prop} {A : Nat → Prop} {V1 V2 : V} {s : St} {fs : List V} (hc : Rc A m V1 s.cl fs) (hm : Rl A m cI 1 V2 s.md) (hA : ∀ j, A j → j < x)
    (z1 : s.cl.length ≤ 1000) (z2 : s.md.length ≤ 1000) (z3 : ∀ c ∈ s.cl, c.frm.length ≤ 1000)
    (hK : ∀ B1 B2 gs m' x', x ≤ x' → (∀ j, j < x → m' j = m j) → Xc m' B1 s.cl gs x x' → Bf m' B2 cI 1 s.md x x' → (Own m x → (∀ F ∈ fs, F.over x = true) → V1.over x = true → V2.over x = true → Own m' x ∧ B1.over x = true ∧ B2.over x = true) → K (.ret (.ag [.i .i64 s.vars, B1, B2])) m' x') :
    w ctx (envOf [.ag [.i .i64 s.vars, V1, V2]]) m x [] none none (RetG ctx store_own.c.rs K) store_own.c.code := by
  have s1 := hm.sl ((m.set x (some (.cells [.i .i64 s.vars, V1, V2] false))).set (x + 1) (some (.cells [.i .i64 0, .ns, .ns] false))) (.eq fun j hj => by have := hA j hj; rw [Sto.sne _ _ _ _ (by omega), Sto.sne _ _ _ _ (by omega)])
  simp +contextual (disch := omega) [Nat.add_assoc, Int.add_assoc, if_pos, if_neg, -Int.not_lt, -Int.not_le, -Nat.not_lt, -Nat.not_le, -List.length_flatMap, store_own.c, hc.len, hm.len, s1, -apV_ns]
  refine Bf.new s.md rfl rfl (by omega) ?_
  intro B2 ws m2 p1 pw p2 p3 pb
  have q0 : m2 x = some (.cells [.i .i64 s.vars, V1, V2] false) := by rw [p3 x (by omega)]; simp +contextual (disch := omega) [Nat.add_assoc, Int.add_assoc, if_pos, if_neg, -Int.not_lt, -Int.not_le, -Nat.not_lt, -Nat.not_le, -List.length_flatMap]
  have q1 : m2 (x + 1) = some (.cells [.i .i64 0, .ns, .ns] false) := by rw [p3 (x + 1) (by omega)]; simp +contextual (disch := omega) [Nat.add_assoc, Int.add_assoc, if_pos, if_neg, -Int.not_lt, -Int.not_le, -Nat.not_lt, -Nat.not_le, -List.length_flatMap]
  have qA : ∀ j, j < x → m2 j = m j := fun j hj => by rw [p3 j (by omega)]; simp +contextual (disch := omega) [Nat.add_assoc, Int.add_assoc, if_pos, if_neg, -Int.not_lt, -Int.not_le, -Nat.not_lt, -Nat.not_le, -List.length_flatMap]
  have s2 := hc.sl m2 (.eq fun j hj => qA j (hA j hj))
  have pw' : ∀ (a : Nat) (b : Option PObj), (a, b) ∈ ws → ¬ a = x := fun a b h => by have := (pw a b h).1; omega
  simp +contextual (disch := omega) [Nat.add_assoc, Int.add_assoc, if_pos, if_neg, -Int.not_lt, -Int.not_le, -Nat.not_lt, -Nat.not_le, -List.length_flatMap, p1, q0, s2, hc.len, p2.stor, p2.cells, -apV_ns]
  refine Yc.new s.cl fs hc.fr.len rfl rfl (by omega) ?_
  intro B1 ws' m3 t1 tw t2 t3
  rw [IfK_pos pw']
  have u0 : m3 x = some (.cells [.i .i64 s.vars, V1, V2] false) := by rw [t3 x (by omega), q0]
  have u1 : m3 (x + 1) = some (.cells [.i .i64 0, .ns, .ns] false) := by rw [t3 (x + 1) (by omega), q1]
  simp +contextual (disch := omega) [Nat.add_assoc, Int.add_assoc, if_pos, if_neg, -Int.not_lt, -Int.not_le, -Nat.not_lt, -Nat.not_le, -List.length_flatMap, t1, u0, t2.stor, t2.cells, t2.len, p2.stor, p2.cells]
  have hfl := hc.fr.len
  refine for_w (fun i e m' x' => ∃ gs, e 1 = .p x 0 ∧ e 2 = .p (x + 1) 0 ∧ e 14 = B1 ∧ e 15 = .i .i64 s.cl.length ∧ e 16 = .i .i64 i ∧ x + 16 ≤ x' ∧ m' x = some (.cells [.i .i64 s.vars, B1, B2] false) ∧ m' (x + 1) = some (.cells [.i .i64 0, .ns, .ns] false) ∧
    (∀ j, j < x → m' j = m j) ∧ Bf m' B2 cI 1 s.md (x + 2) (x + 6) ∧ Yc m' B1 s.cl (gs ++ fs.drop i) (x + 7) ∧ gs.length = i ∧ Fr (fun j => x + 8 ≤ j ∧ j < x') m' gs (s.cl.take i) ∧
    (Own m x → (∀ F ∈ fs, F.over x = true) → V1.over x = true → V2.over x = true → Own m' x ∧ ∀ F ∈ gs, F.over x = true)) s.cl.length ?_ ?_ ?_
  · refine ⟨[], ?_⟩
    have hm3 : ∀ j, j < x → m3 j = m j := fun j hj => by rw [t3 j (by omega)]; exact qA j hj
    have hB2 : ∀ y, y ≤ x → B2.over y = true := by
      intro y hy
      rcases pb with rfl | rfl
      · rfl
      · simp [V.over]; omega
    simp +contextual (disch := omega) [Nat.add_assoc, Int.add_assoc, if_pos, if_neg, -Int.not_lt, -Int.not_le, -Nat.not_lt, -Nat.not_le, -List.length_flatMap]
    refine ⟨u1, hm3, ?_, ?_, trivial, fun o1 o2 o3 o4 => ?_⟩
    · have h4 := p2.up (m' := m3) (Nat.le_refl _) (fun j h1 h2 => t3 j (by omega))
      exact (h4.up (x' := x + 6) (by omega) (fun j h1 h2 => by simp +contextual (disch := omega) [Nat.add_assoc, Int.add_assoc, if_pos, if_neg, -Int.not_lt, -Int.not_le, -Nat.not_lt, -Nat.not_le, -List.length_flatMap])).low (by omega)
    · rcases t2 with h | ⟨h1, h2⟩
      · exact .inl h
      · exact .inr ⟨h1, by simp +contextual (disch := omega) [Nat.add_assoc, Int.add_assoc, if_pos, if_neg, -Int.not_lt, -Int.not_le, -Nat.not_lt, -Nat.not_le, -List.length_flatMap, h2]⟩
    · have w1 : Own m2 x := by
        rw [← p1]
        refine Own.app (Own.set (Own.set o1 (by simp [ownO, overL, V.over, o3, o4])) (by simp [ownO, overL, V.over])) (fun a b h => ?_)
        rw [(pw a b h).2]
        exact over_cI x s.md
      have w2 : Own m3 x := by
        rw [← t1]
        refine Own.app w1 (fun a b h => ?_)
        rw [(tw a b h).2]
        exact over_trips o2
      refine Own.set (Own.set w2 ?_) ?_
      · simp [ownO, overL, V.over, o3, hB2 x (Nat.le_refl _)]
      · simp [ownO, overL, V.over, t2.over (x := x) (by omega), hB2 x (Nat.le_refl _)]
  · rintro i e m' x' hi ⟨gs, g1, g2, g14, g15, g16, hx', y0, y1, yA, yB, yC, hgl, hF, hO⟩
    obtain ⟨F, hF1, hF2⟩ := hc.fr.at hi
    have hfi : i < fs.length := by omega
    have hdr : fs.drop i = F :: fs.drop (i + 1) := by
      rw [List.drop_eq_getElem_cons hfi]
      congr 1
      rw [List.getElem?_eq_getElem hfi] at hF1
      simpa using hF1
    have hlen : (gs ++ fs.drop i).length = s.cl.length := by simp; omega
    rcases yC with ⟨_, h, _⟩ | ⟨hB1, yC⟩
    · rw [h] at hi; simp at hi
    · have hcut : ((trips (gs ++ fs.drop i) s.cl).drop (i * 3)).take 3 = trip F s.cl[i] := by
        rw [trips_drop hlen, List.drop_left' hgl, hdr, List.drop_eq_getElem_cons hi]
        rfl
      have htl := trips_len hlen
      have hfrl := z3 _ (List.getElem_mem hi)
      have q1 := hF2.sl ((m'.set (x' + 4) (some (.cells [.ns, .i .i64 0, .i .i64 0] false))).set (x' + 4) (some (.cells [F, .i .i64 s.cl[i].to.var, .i .i64 s.cl[i].to.off] false)))
        (.eq fun j hj => by have := hA j hj; rw [Sto.sne _ _ _ _ (by omega), Sto.sne _ _ _ _ (by omega), yA j this])
      simp +contextual (disch := omega) [Nat.add_assoc, Int.add_assoc, if_pos, if_neg, -Int.not_lt, -Int.not_le, -Nat.not_lt, -Nat.not_le, -List.length_flatMap, store_own.b1, g1, g2, g14, g15, g16, hi, y0, y1, hB1, yC, hcut, htl, trip, q1, hF2.len, -apV_ns]
      refine Bf.new s.cl[i].frm rfl rfl (by omega) ?_
      intro F' wsF m4 v1 vw v2 v3 vb
      rw [IfK_pos (fun a b h => by have := (vw a b h).1; omega)]
      have v7 : m4 (x + 7) = some (.cells (trips (gs ++ fs.drop i) s.cl) false) := by rw [v3 _ (by omega)]; simp +contextual (disch := omega) [Nat.add_assoc, Int.add_assoc, if_pos, if_neg, -Int.not_lt, -Int.not_le, -Nat.not_lt, -Nat.not_le, -List.length_flatMap, yC]
      have hset : (trips (gs ++ fs.drop i) s.cl).take (i * 3) ++ F' :: (trips (gs ++ fs.drop i) s.cl).drop (i * 3 + 1) = trips ((gs ++ [F']) ++ fs.drop (i + 1)) s.cl := by
        have h1 := trips_set (F := F') hlen hi
        rw [List.set_eq_take_append_cons_drop, if_pos (by omega)] at h1
        rw [h1]
        congr 1
        rw [List.set_append_right _ _ (by omega), hdr, hgl, Nat.sub_self, List.set_cons_zero, List.append_assoc]
        rfl
      have v0 : m4 x = some (.cells [.i .i64 s.vars, .ms (x + 7) 0 s.cl.length 3, B2] false) := by rw [v3 _ (by omega), ← hB1]; simp +contextual (disch := omega) [Nat.add_assoc, Int.add_assoc, if_pos, if_neg, -Int.not_lt, -Int.not_le, -Nat.not_lt, -Nat.not_le, -List.length_flatMap, y0]
      have v6 : m4 (x + 1) = some (.cells [.i .i64 0, .ns, .ns] false) := by rw [v3 _ (by omega)]; simp +contextual (disch := omega) [Nat.add_assoc, Int.add_assoc, if_pos, if_neg, -Int.not_lt, -Int.not_le, -Nat.not_lt, -Nat.not_le, -List.length_flatMap, y1]
      have vA : ∀ j, j < x → m4 j = m j := fun j hj => by rw [v3 j (by omega)]; simp +contextual (disch := omega) [Nat.add_assoc, Int.add_assoc, if_pos, if_neg, -Int.not_lt, -Int.not_le, -Nat.not_lt, -Nat.not_le, -List.length_flatMap, yA]
      have vold : ∀ j, x + 2 ≤ j → j < x' → m4 j = m' j := fun j h1 h2 => by rw [v3 j (by omega)]; simp +contextual (disch := omega) [Nat.add_assoc, Int.add_assoc, if_pos, if_neg, -Int.not_lt, -Int.not_le, -Nat.not_lt, -Nat.not_le, -List.length_flatMap]
      simp +contextual (disch := omega) [Nat.add_assoc, Int.add_assoc, if_pos, if_neg, -Int.not_lt, -Int.not_le, -Nat.not_lt, -Nat.not_le, -List.length_flatMap, v1, v7, v2.stor, v2.cells, htl, g1, g2, g14, g15, g16, hB1, hset, v0, v6]
      have hFo : F'.over x = true := by
        rcases vb with rfl | rfl
        · rfl
        · simp [V.over]; omega
      have htk : s.cl.take (i + 1) = s.cl.take i ++ [s.cl[i]] := List.take_succ_eq_append_getElem hi
      refine ⟨by omega, vA, ?_, gs ++ [F'], ?_, by simp; omega, ?_, fun o1 o2 o3 o4 => ?_⟩
      · exact yB.up (Nat.le_refl _) (fun j h1 h2 => by rw [Sto.sne _ _ _ _ (by omega)]; exact vold j h1 (by omega))
      · refine .inr ⟨rfl, ?_⟩
        rw [Sto.seq, List.append_assoc]; rfl
      · rw [htk]
        refine Fr.app (hF.up (.eq fun j hj => ?_) (fun j hj => ⟨hj.1, by omega⟩)) ⟨?_, trivial⟩
        · rw [Sto.sne _ _ _ _ (by omega)]; exact vold j (by omega) hj.2
        · exact ((Rl.Bf v2).up (.eq fun j hj => by rw [Sto.sne _ _ _ _ (by omega)])).mono (fun j hj => ⟨by omega, by omega⟩)
      · obtain ⟨w1, w2⟩ := hO o1 o2 o3 o4
        have hFF : F.over x = true := o2 F (List.mem_of_getElem? hF1)
        have w3 : Own m4 x := by
          rw [← v1]
          refine Own.app (Own.set (Own.set w1 (by simp [ownO, overL, V.over])) (by simp [ownO, overL, V.over, hFF])) (fun a b h => ?_)
          rw [(vw a b h).2]
          exact over_cA x _
        have w4 : ∀ G ∈ gs ++ [F'], G.over x = true := by
          intro G hG
          rcases List.mem_append.1 hG with hG | hG
          · exact w2 G hG
          · rw [List.mem_singleton.1 hG]; exact hFo
        refine ⟨Own.set w3 (over_trips fun G hG => ?_), w4⟩
        rcases List.mem_append.1 hG with hG | hG
        · exact w2 G hG
        · rcases List.mem_cons.1 hG with rfl | hG
          · exact hFo
          · exact o2 G (List.mem_of_mem_drop hG)
  · rintro e m' x' ⟨gs, g1, g2, g14, g15, g16, hx', y0, y1, yA, yB, yC, hgl, hF, hO⟩
    simp +contextual (disch := omega) [Nat.add_assoc, Int.add_assoc, if_pos, if_neg, -Int.not_lt, -Int.not_le, -Nat.not_lt, -Nat.not_le, -List.length_flatMap, store_own.b1, g1, g2, g14, g15, g16, y0, y1]
    have hnil : fs.drop s.cl.length = [] := List.drop_of_length_le (by omega)
    rw [hnil, List.append_nil] at yC
    rw [List.take_length] at hF
    refine hK B1 B2 gs _ _ (by omega) (fun j hj => by simp +contextual (disch := omega) [Nat.add_assoc, Int.add_assoc, if_pos, if_neg, -Int.not_lt, -Int.not_le, -Nat.not_lt, -Nat.not_le, -List.length_flatMap, yA]) ?_ ?_ (fun o1 o2 o3 o4 => ?_)
    · have yC' : Yc (m'.set (x + 1) (some (.cells [.i .i64 s.vars, B1, B2] false))) B1 s.cl gs (x + 7) := by
        rcases yC with h | ⟨h1, h2⟩
        · exact .inl h
        · exact .inr ⟨h1, by simp +contextual (disch := omega) [Nat.add_assoc, Int.add_assoc, if_pos, if_neg, -Int.not_lt, -Int.not_le, -Nat.not_lt, -Nat.not_le, -List.length_flatMap, h2]⟩
      exact yC'.xc (by omega) (by omega) (hF.up (.eq fun j hj => by simp +contextual (disch := omega) [Nat.add_assoc, Int.add_assoc, if_pos, if_neg, -Int.not_lt, -Int.not_le, -Nat.not_lt, -Nat.not_le, -List.length_flatMap]) (fun j hj => ⟨by omega, by omega, by omega⟩))
    · exact (yB.up (x' := x' + 4) (by omega) (fun j h1 h2 => by simp +contextual (disch := omega) [Nat.add_assoc, Int.add_assoc, if_pos, if_neg, -Int.not_lt, -Int.not_le, -Nat.not_lt, -Nat.not_le, -List.length_flatMap])).low (by omega)
    · obtain ⟨w1, w2⟩ := hO o1 o2 o3 o4
      have hB2 : B2.over x = true := by
        rcases pb with rfl | rfl
        · rfl
        · simp [V.over]
      have hB1 : B1.over x = true := yC.over (by omega)
      exact ⟨Own.set w1 (by simp [ownO, overL, V.over, hB1, hB2]), hB1, hB2⟩
end Pi

