/- Contracts: stores (layer 11): a store in memory of its own, in the document. -/
import Derived.Test.YtfdkpnckflmcaaaC11b
set_option linter.unusedSimpArgs false
set_option linter.unusedVariables false
namespace Pi
/-- A list of clauses, as it can be looked into. -/
def Ic (m : Sto) (B : V) (cl : List C) (fs : List V) (x : Nat) : Prop := (B = sV cC cl ∧ fs = cl.map fun c => sV cA c.frm) ∨ (B = .ns ∧ cl = [] ∧ fs = []) ∨ ∃ a ro, B = .ms a 0 cl.length 3 ∧ m a = some (.cells (trips fs cl) ro) ∧ a < x
theorem Ic.len {m : Sto} {B : V} {cl : List C} {fs : List V} {x : Nat} (h : Ic m B cl fs x) : lenSl B = some cl.length := by
  rcases h with ⟨rfl, _⟩ | ⟨rfl, rfl, _⟩ | ⟨a, ro, rfl, _⟩ <;> rfl
/-- The clauses lie behind the model. -/
def Sep (m : Sto) (B1 B2 : V) (cl : List C) (gs : List V) (x : Nat) : Prop := ∀ a n, B2 = .ms a 0 n 1 → Xc m B1 cl gs (a + 1) x
theorem Sep.up {m m' mb : Sto} {B1 B2 : V} {cl : List C} {gs : List V} {x x' lo xb : Nat} {l : List Int} (h : Sep m B1 B2 cl gs x) (hB : Bf mb B2 cI 1 l lo xb) (hx : x ≤ x') (hm : ∀ j, lo ≤ j → j < x → m' j = m j) : Sep m' B1 B2 cl gs x' := by
  intro a n e
  have hlo : lo ≤ a := by
    rcases hB with ⟨h1, _⟩ | ⟨b, cs, h1, _, _, h2, _⟩
    · rw [h1] at e; cases e
    · rw [h1] at e; injection e with e1; omega
  exact (h a n e).up (Nat.le_refl _) hx (fun j h1 h2 => hm j (by omega) h2)
theorem aft_cells (w : V) : ∀ (ids : List Nat) (m : Sto) (l : Nat) (cs : List V) (r : Bool), m l = some (.cells cs r) → ∃ r', aft w m ids l = some (.cells cs r')
  | [], m, l, cs, r, h => by rw [aft_nil]; exact ⟨r, h⟩
  | a :: ids, m, l, cs, r, h => by
    rw [aft_cons]
    by_cases e : l = a
    · subst e
      exact aft_cells w ids _ l cs (r || !w.scal) (by rw [Sto.seq, h]; rfl)
    · exact aft_cells w ids _ l cs r (by rw [Sto.sne _ _ _ _ e, h])
theorem Ic.aft {m : Sto} {B : V} {cl : List C} {fs : List V} {x : Nat} (h : Ic m B cl fs x) (u : V) (ids : List Nat) : Ic (aft u m ids) B cl fs x := by
  rcases h with h | h | ⟨a, ro, h1, h2, h3⟩
  · exact .inl h
  · exact .inr (.inl h)
  · obtain ⟨r, e⟩ := aft_cells u ids m a _ _ h2
    exact .inr (.inr ⟨a, r, h1, e, h3⟩)
theorem Ic.up {m m' : Sto} {B : V} {cl : List C} {fs : List V} {x x' : Nat} (h : Ic m B cl fs x) (hm : ∀ j, j < x → m' j = m j) (hx : x ≤ x') : Ic m' B cl fs x' := by
  rcases h with h | h | ⟨a, ro, h1, h2, h3⟩
  · exact .inl h
  · exact .inr (.inl h)
  · exact .inr (.inr ⟨a, ro, h1, by rw [hm a h3, h2], by omega⟩)
set_option maxHeartbeats 1000000 in
theorem ref11_own.w {m : Sto} {x : Nat} {K : CR → Sto → Nat → Prop} {A : Nat → Prop} {V1 V2 : V} {s : St} {fs : List V} (hi : Ic m V1 s.cl fs x) (hf : Fr A m fs s.cl) (hm : Rl A m cI 1 V2 s.md) (hA : ∀ j, A j → j < x) (hr : ∀ j ∈ refOf V2, j < x)
    (z1 : s.cl.length ≤ 1000) (z2 : s.md.length ≤ 1000) (z3 : ∀ c ∈ s.cl, c.frm.length ≤ 1000)
    (hK : ∀ B1 B2 gs m' x', x ≤ x' → (∀ j, j < x → m' j = m j) → Xc m' B1 s.cl gs x x' → Bf m' B2 cI 1 s.md x x' → Sep m' B1 B2 s.cl gs x' → K (.ret (.ag [.i .i64 s.vars, B1, B2])) m' x') :
    w ctx (envOf [.ag [.i .i64 s.vars, V1, V2]]) m x [] none none (RetG ctx ref11_own.c.rs K) ref11_own.c.code := by
  have s1 := hm.sl ((m.set x (some (.cells [.i .i64 s.vars, V1, V2] false))).set (x + 1) (some (.cells [.i .i64 0, .ns, .ns] false))) (.eq fun j hj => by have := hA j hj; rw [Sto.sne _ _ _ _ (by omega), Sto.sne _ _ _ _ (by omega)])
  have s2 := (ap_of (m := ((m.set x (some (.cells [.i .i64 s.vars, V1, V2] false))).set (x + 1) (some (.cells [.i .i64 0, .ns, .ns] false)))) (k := 1) hm.len).trans s1
  have s3 := lenV_of (m := ((m.set x (some (.cells [.i .i64 s.vars, V1, V2] false))).set (x + 1) (some (.cells [.i .i64 0, .ns, .ns] false)))) hm.len
  simp +contextual (disch := omega) [Nat.add_assoc, Int.add_assoc, if_pos, if_neg, -Int.not_lt, -Int.not_le, -Nat.not_lt, -Nat.not_le, -List.length_flatMap, ref11_own.c, s2, s3, -apV_ns]
  refine Bf.new s.md rfl rfl (by omega) ?_
  intro B2 ws m2 p1 pw p2 p3 pb
  have q0 : m2 x = some (.cells [.i .i64 s.vars, V1, V2] false) := by rw [p3 x (by omega)]; simp +contextual (disch := omega) [Nat.add_assoc, Int.add_assoc, if_pos, if_neg, -Int.not_lt, -Int.not_le, -Nat.not_lt, -Nat.not_le, -List.length_flatMap]
  have q1 : m2 (x + 1) = some (.cells [.i .i64 0, .ns, .ns] false) := by rw [p3 (x + 1) (by omega)]; simp +contextual (disch := omega) [Nat.add_assoc, Int.add_assoc, if_pos, if_neg, -Int.not_lt, -Int.not_le, -Nat.not_lt, -Nat.not_le, -List.length_flatMap]
  have qA : ∀ j, j < x → m2 j = m j := fun j hj => by rw [p3 j (by omega)]; simp +contextual (disch := omega) [Nat.add_assoc, Int.add_assoc, if_pos, if_neg, -Int.not_lt, -Int.not_le, -Nat.not_lt, -Nat.not_le, -List.length_flatMap]
  simp +contextual (disch := omega) [Nat.add_assoc, Int.add_assoc, if_pos, if_neg, -Int.not_lt, -Int.not_le, -Nat.not_lt, -Nat.not_le, -List.length_flatMap, p1, q0, p2.stor, p2.cells, -apV_ns]
  rw [IfK_pos ⟨fun a b h => by have := (pw a b h).1; omega, fun a b h => by have := (pw a b h).1; omega, fun h => by have := hr _ h; omega⟩]
  have hfl := hf.len
  refine for_w (fun i e m' x' => ∃ B gs, e 1 = .p x 0 ∧ e 2 = .p (x + 1) 0 ∧ e 3 = .p (x + 8) 0 ∧ e 4 = .i .i64 i ∧ x + 11 ≤ x' ∧ m' x = some (.cells [.i .i64 s.vars, V1, V2] false) ∧ m' (x + 1) = some (.cells [.i .i64 0, .ns, .ns] false) ∧
    m' (x + 8) = some (.cells [.i .i64 s.vars, B, B2] false) ∧ (∀ j, j < x → m' j = m j) ∧ Bf m' B2 cI 1 s.md (x + 2) (x + 8) ∧ Xc m' B (s.cl.take i) gs (x + 9) x') s.cl.length ?_ ?_ ?_
  · refine ⟨.ns, [], ?_⟩
    simp +contextual (disch := omega) [Nat.add_assoc, Int.add_assoc, if_pos, if_neg, -Int.not_lt, -Int.not_le, -Nat.not_lt, -Nat.not_le, -List.length_flatMap, q0]
    refine ⟨q1, qA, ?_, Xc.nil⟩
    exact (p2.up (x' := x + 8) (by omega) (fun j h1 h2 => by simp +contextual (disch := omega) [Nat.add_assoc, Int.add_assoc, if_pos, if_neg, -Int.not_lt, -Int.not_le, -Nat.not_lt, -Nat.not_le, -List.length_flatMap])).low (by omega)
  · rintro i e m' x' hil ⟨B, gs, g1, g2, g3, g4, hx', y0, y1, y8, yA, yB, yC⟩
    obtain ⟨F, hF1, hF2⟩ := hf.at hil
    have hlen := hi.len
    have hfrl := z3 _ (List.getElem_mem hil)
    rcases hi with ⟨rfl, hfs⟩ | ⟨_, h, _⟩ | ⟨a, ro, rfl, ham, hax⟩
    · simp +contextual (disch := omega) [Nat.add_assoc, Int.add_assoc, if_pos, if_neg, -Int.not_lt, -Int.not_le, -Nat.not_lt, -Nat.not_le, -List.length_flatMap, ref11_own.b1, g1, g2, g3, g4, hil, y0, y1, y8, -apV_ns]
      refine Bf.new s.cl[i].frm rfl rfl (by omega) ?_
      intro F' wsF m4 v1 vw v2 v3 vb
      have v8 : m4 (x + 8) = some (.cells [.i .i64 s.vars, B, B2] false) := by rw [v3 _ (by omega)]; simp +contextual (disch := omega) [Nat.add_assoc, Int.add_assoc, if_pos, if_neg, -Int.not_lt, -Int.not_le, -Nat.not_lt, -Nat.not_le, -List.length_flatMap, y8]
      have v9 : m4 (x' + 10) = some (.cells (cC s.cl[i]) false) := by rw [v3 _ (by omega)]; simp +contextual (disch := omega) [Nat.add_assoc, Int.add_assoc, if_pos, if_neg, -Int.not_lt, -Int.not_le, -Nat.not_lt, -Nat.not_le, -List.length_flatMap]
      have w1 : ∀ (a : Nat) (b : Option PObj), (a, b) ∈ wsF → ¬ a = x + 8 := fun a b h => by have := (vw a b h).1; omega
      have w2 : ∀ (a : Nat) (b : Option PObj), (a, b) ∈ wsF → ¬ a = x' + 10 := fun a b h => by have := (vw a b h).1; omega
      simp +contextual (disch := omega) [Nat.add_assoc, Int.add_assoc, if_pos, if_neg, -Int.not_lt, -Int.not_le, -Nat.not_lt, -Nat.not_le, -List.length_flatMap, v1, v8, v9, v2.stor, v2.cells, -apV_ns]
      rw [IfK_pos ⟨w1, w2, by omega⟩]
      have vold : ∀ j, j < x' → m4 j = m' j := fun j h => by rw [v3 j (by omega)]; simp +contextual (disch := omega) [Nat.add_assoc, Int.add_assoc, if_pos, if_neg, -Int.not_lt, -Int.not_le, -Nat.not_lt, -Nat.not_le, -List.length_flatMap]
      refine yC.ap (lo := x + 9) (dl := [s.cl[i]]) (gs := [F']) (fun j h1 h2 => by rw [Sto.sne _ _ _ _ (by omega)]; exact vold j h2) (by omega) (by omega) (by omega) rfl rfl ?_ (by simp; omega) ?_
      · refine ⟨((Rl.Bf v2).up (.eq fun j hj => by rw [Sto.sne _ _ _ _ (by omega)])).mono (fun j hj => ⟨by omega, by omega, by omega⟩), trivial⟩
      · intro B' ws2 m5 r1 r2 r3 r4
        have r8 : m5 (x + 8) = some (.cells [.i .i64 s.vars, B, B2] false) := by rw [r3 _ (by omega), Sto.sne _ _ _ _ (by omega), v8]
        have r0 : m5 x = some (.cells [.i .i64 s.vars, sV cC s.cl, V2] false) := by rw [r3 _ (by omega), Sto.sne _ _ _ _ (by omega), vold _ (by omega), y0]
        have r6 : m5 (x + 1) = some (.cells [.i .i64 0, .ns, .ns] false) := by rw [r3 _ (by omega), Sto.sne _ _ _ _ (by omega), vold _ (by omega), y1]
        have hB' : B'.stor = true ∧ B'.cells = [B'] := ⟨r2.rc.stor, r2.rc.cells⟩
        simp +contextual (disch := omega) [Nat.add_assoc, Int.add_assoc, if_pos, if_neg, -Int.not_lt, -Int.not_le, -Nat.not_lt, -Nat.not_le, -List.length_flatMap, r1, r8, r0, r6, hB'.1, hB'.2, g1, g2, g3, g4]
        have e : s.cl.take (i + 1) = s.cl.take i ++ [s.cl[i]] := List.take_succ_eq_append_getElem hil
        refine ⟨by omega, fun j hj => by rw [r3 _ (by omega), Sto.sne _ _ _ _ (by omega), vold _ (by omega), yA j hj], ?_, gs ++ [F'], ?_⟩
        · exact yB.up (Nat.le_refl _) (fun j h1 h2 => by rw [Sto.sne _ _ _ _ (by omega), r3 _ (by omega), Sto.sne _ _ _ _ (by omega), vold _ (by omega)])
        · rw [e]
          exact r2.up (Nat.le_refl _) (by omega) (fun j h1 h2 => by rw [Sto.sne _ _ _ _ (by omega)])
    · rw [h] at hil; simp at hil
    · have ha := (yA a hax).trans ham
      have hcut : ((trips fs s.cl).drop (i * 3)).take 3 = trip F s.cl[i] := by
        rw [trips_drop hfl, List.drop_eq_getElem_cons (by omega : i < fs.length), List.drop_eq_getElem_cons hil]
        rw [List.getElem?_eq_getElem (by omega)] at hF1
        cases hF1
        rfl
      have htl := trips_len hfl
      have u1 : apCells ((m'.set (x' + 10) (some (.cells [.ns, .i .i64 0, .i .i64 0] false))).set (x' + 10) (some (.cells [F, .i .i64 s.cl[i].to.var, .i .i64 s.cl[i].to.off] false))) 2 F = some (s.cl[i].frm.flatMap cA) :=
        (ap_of hF2.len).trans (hF2.sl _ (.eq fun j hj => by have := hA j hj; rw [Sto.sne _ _ _ _ (by omega), Sto.sne _ _ _ _ (by omega), yA j this]))
      have u2 := lenV_of (m := ((m'.set (x' + 10) (some (.cells [.ns, .i .i64 0, .i .i64 0] false))).set (x' + 10) (some (.cells [F, .i .i64 s.cl[i].to.var, .i .i64 s.cl[i].to.off] false)))) hF2.len
      simp +contextual (disch := omega) [Nat.add_assoc, Int.add_assoc, if_pos, if_neg, -Int.not_lt, -Int.not_le, -Nat.not_lt, -Nat.not_le, -List.length_flatMap, ref11_own.b1, g1, g2, g3, g4, hil, y0, y1, y8, ha, hcut, htl, trip, u1, u2, -apV_ns]
      refine Bf.new s.cl[i].frm rfl rfl (by omega) ?_
      intro F' wsF m4 v1 vw v2 v3 vb
      have v8 : m4 (x + 8) = some (.cells [.i .i64 s.vars, B, B2] false) := by rw [v3 _ (by omega)]; simp +contextual (disch := omega) [Nat.add_assoc, Int.add_assoc, if_pos, if_neg, -Int.not_lt, -Int.not_le, -Nat.not_lt, -Nat.not_le, -List.length_flatMap, y8]
      have v9 : m4 (x' + 10) = some (.cells ([F, .i .i64 s.cl[i].to.var, .i .i64 s.cl[i].to.off]) false) := by rw [v3 _ (by omega)]; simp +contextual (disch := omega) [Nat.add_assoc, Int.add_assoc, if_pos, if_neg, -Int.not_lt, -Int.not_le, -Nat.not_lt, -Nat.not_le, -List.length_flatMap]
      have w1 : ∀ (a : Nat) (b : Option PObj), (a, b) ∈ wsF → ¬ a = x + 8 := fun a b h => by have := (vw a b h).1; omega
      have w2 : ∀ (a : Nat) (b : Option PObj), (a, b) ∈ wsF → ¬ a = x' + 10 := fun a b h => by have := (vw a b h).1; omega
      simp +contextual (disch := omega) [Nat.add_assoc, Int.add_assoc, if_pos, if_neg, -Int.not_lt, -Int.not_le, -Nat.not_lt, -Nat.not_le, -List.length_flatMap, v1, v8, v9, v2.stor, v2.cells, -apV_ns]
      rw [IfK_pos ⟨w1, w2, by omega⟩]
      have vold : ∀ j, j < x' → m4 j = m' j := fun j h => by rw [v3 j (by omega)]; simp +contextual (disch := omega) [Nat.add_assoc, Int.add_assoc, if_pos, if_neg, -Int.not_lt, -Int.not_le, -Nat.not_lt, -Nat.not_le, -List.length_flatMap]
      refine yC.ap (lo := x + 9) (dl := [s.cl[i]]) (gs := [F']) (fun j h1 h2 => by rw [Sto.sne _ _ _ _ (by omega)]; exact vold j h2) (by omega) (by omega) (by omega) rfl rfl ?_ (by simp; omega) ?_
      · refine ⟨((Rl.Bf v2).up (.eq fun j hj => by rw [Sto.sne _ _ _ _ (by omega)])).mono (fun j hj => ⟨by omega, by omega, by omega⟩), trivial⟩
      · intro B' ws2 m5 r1 r2 r3 r4
        have r8 : m5 (x + 8) = some (.cells [.i .i64 s.vars, B, B2] false) := by rw [r3 _ (by omega), Sto.sne _ _ _ _ (by omega), v8]
        have r0 : m5 x = some (.cells [.i .i64 s.vars, .ms a 0 s.cl.length 3, V2] false) := by rw [r3 _ (by omega), Sto.sne _ _ _ _ (by omega), vold _ (by omega), y0]
        have r6 : m5 (x + 1) = some (.cells [.i .i64 0, .ns, .ns] false) := by rw [r3 _ (by omega), Sto.sne _ _ _ _ (by omega), vold _ (by omega), y1]
        have hB' : B'.stor = true ∧ B'.cells = [B'] := ⟨r2.rc.stor, r2.rc.cells⟩
        simp +contextual (disch := omega) [Nat.add_assoc, Int.add_assoc, if_pos, if_neg, -Int.not_lt, -Int.not_le, -Nat.not_lt, -Nat.not_le, -List.length_flatMap, r1, r8, r0, r6, hB'.1, hB'.2, g1, g2, g3, g4]
        have e : s.cl.take (i + 1) = s.cl.take i ++ [s.cl[i]] := List.take_succ_eq_append_getElem hil
        refine ⟨by omega, fun j hj => by rw [r3 _ (by omega), Sto.sne _ _ _ _ (by omega), vold _ (by omega), yA j hj], ?_, gs ++ [F'], ?_⟩
        · exact yB.up (Nat.le_refl _) (fun j h1 h2 => by rw [Sto.sne _ _ _ _ (by omega), r3 _ (by omega), Sto.sne _ _ _ _ (by omega), vold _ (by omega)])
        · rw [e]
          exact r2.up (Nat.le_refl _) (by omega) (fun j h1 h2 => by rw [Sto.sne _ _ _ _ (by omega)])
  · rintro e m' x' ⟨B, gs, g1, g2, g3, g4, hx', y0, y1, y8, yA, yB, yC⟩
    simp +contextual (disch := omega) [Nat.add_assoc, Int.add_assoc, if_pos, if_neg, -Int.not_lt, -Int.not_le, -Nat.not_lt, -Nat.not_le, -List.length_flatMap, ref11_own.b1, g1, g2, g3, g4, y0, y1, y8, hi.len]
    rw [List.take_length] at yC
    refine hK B B2 gs _ _ (by omega) (fun j hj => by simp +contextual (disch := omega) [Nat.add_assoc, Int.add_assoc, if_pos, if_neg, -Int.not_lt, -Int.not_le, -Nat.not_lt, -Nat.not_le, -List.length_flatMap, yA]) (yC.up (by omega) (by omega) (fun j h1 h2 => by simp +contextual (disch := omega) [Nat.add_assoc, Int.add_assoc, if_pos, if_neg, -Int.not_lt, -Int.not_le, -Nat.not_lt, -Nat.not_le, -List.length_flatMap])) ?_ ?_
    · exact (yB.up (x' := x' + 7) (by omega) (fun j h1 h2 => by simp +contextual (disch := omega) [Nat.add_assoc, Int.add_assoc, if_pos, if_neg, -Int.not_lt, -Int.not_le, -Nat.not_lt, -Nat.not_le, -List.length_flatMap])).low (by omega)
    · intro a n e
      have hlo : a < x + 8 := by
        rcases yB with ⟨h1, _⟩ | ⟨b, cs, h1, _, _, _, h2⟩
        · rw [h1] at e; cases e
        · rw [h1] at e; injection e with e1; omega
      exact yC.up (by omega) (by omega) (fun j h1 h2 => by simp +contextual (disch := omega) [Nat.add_assoc, Int.add_assoc, if_pos, if_neg, -Int.not_lt, -Int.not_le, -Nat.not_lt, -Nat.not_le, -List.length_flatMap])
end Pi
