/- Contracts: stores (layer 11): a store in memory of its own, in the document. -/
import Derived.Test.YtfdkpnckflmcaaaC11a
import Derived.Test.YtfdkpnckflmcaaaC09d
import Derived.Test.YtfdkpnckflmcaaaC08d
set_option linter.unusedSimpArgs false
set_option linter.unusedVariables false
namespace Pi
/-- A list of clauses, as it can be looked into. -/
def Ic (m : Sto) (B : V) (cl : List C) (fs : List V) (x : Nat) : Prop := (B = sV cC cl ∧ fs = cl.map fun c => sV cA c.frm) ∨ (B = .ns ∧ cl = [] ∧ fs = []) ∨ ∃ a ro, B = .ms a 0 cl.length 3 ∧ m a = some (.cells (trips fs cl) ro) ∧ a < x
theorem Ic.len {m : Sto} {B : V} {cl : List C} {fs : List V} {x : Nat} (h : Ic m B cl fs x) : lenSl B = some cl.length := by
  rcases h with ⟨rfl, _⟩ | ⟨rfl, rfl, _⟩ | ⟨a, ro, rfl, _⟩ <;> rfl
/-- The clauses lie behind the model. -/
def Sep (m : Sto) (B1 B2 : V) (cl : List C) (gs : List V) (x : Nat) : Prop := ∀ a n, B2 = .ms a 0 n 1 → Xc m B1 cl gs (a + 1) x
theorem Sep.up {m m' mb : Sto} {B1 B2 : V} {cl : List C} {gs : List V} {x x' lo xb : Nat} {l : List Int} (h : Sep m B1 B2 cl gs x) (hB : Bf mb B2 cI 1 l lo xb) (hx : x ≤ x') (hm : ∀ j, lo ≤ j → j < x → m' j = m j) : Sep m' B1 B2 cl gs x' := by
  intro a n e
  have hlo : lo ≤ a := by
    rcases hB with ⟨h1, _⟩ | ⟨b, cs, h1, _, _, h2, _⟩
    · rw [h1] at e; cases e
    · rw [h1] at e; injection e with e1; omega
  exact (h a n e).up (Nat.le_refl _) hx (fun j h1 h2 => hm j (by omega) h2)
theorem aft_cells (w : V) : ∀ (ids : List Nat) (m : Sto) (l : Nat) (cs : List V) (r : Bool), m l = some (.cells cs r) → ∃ r', aft w m ids l = some (.cells cs r')
  | [], m, l, cs, r, h => by rw [aft_nil]; exact ⟨r, h⟩
  | a :: ids, m, l, cs, r, h => by
    rw [aft_cons]
    by_cases e : l = a
    · subst e
      exact aft_cells w ids _ l cs (r || !w.scal) (by rw [Sto.seq, h]; rfl)
    · exact aft_cells w ids _ l cs r (by rw [Sto.sne _ _ _ _ e, h])
theorem Ic.up {m m' : Sto} {B : V} {cl : List C} {fs : List V} {x x' : Nat} (h : Ic m B cl fs x) (hm : ∀ j, j < x → m' j = m j) (hx : x ≤ x') : Ic m' B cl fs x' := by
  rcases h with h | h | ⟨a, ro, h1, h2, h3⟩
  · exact .inl h
  · exact .inr (.inl h)
  · exact .inr (.inr ⟨a, ro, h1, by rw [hm a h3, h2], by omega⟩)
set_option maxHeartbeats 1000000 in
theorem ref11_own.w {m : Sto} {x : Nat} {K : CR → Sto → Nat → Prop} {A : Nat → Prop} {V1 V2 : V} {s : St} {fs : List V} (hi : Ic m V1 s.cl fs x) (hf : Fr A m fs s.cl) (hm : Rl A m cI 1 V2 s.md) (hA : ∀ j, A j → j < x) (hr : ∀ j ∈ refOf V2, j < x)
    (z1 : s.cl.length ≤ 1000) (z2 : s.md.length ≤ 1000) (z3 : ∀ c ∈ s.cl, c.frm.length ≤ 1000)
    (hK : ∀ B1 B2 gs m' x', x ≤ x' → (∀ j, j < x → m' j = m j) → Xc m' B1 s.cl gs x x' → Bf m' B2 cI 1 s.md x x' → Sep m' B1 B2 s.cl gs x' → K (.ret (.ag [.i .i64 s.vars, B1, B2])) m' x') :
    w ctx (envOf [.ag [.i .i64 s.vars, V1, V2]]) m x [] none none (RetG ctx ref11_own.c.rs K) ref11_own.c.code := by
  have s1 := hm.sl ((m.set x (some (.cells [.i .i64 s.vars, V1, V2] false))).set (x + 1) (some (.cells [.i .i64 0, .ns, .ns] false))) (.eq fun j hj => by have := hA j hj; rw [Sto.sne _ _ _ _ (by omega), Sto.sne _ _ _ _ (by omega)])
  have s2 := (ap_of (m := ((m.set x (some (.cells [.i .i64 s.vars, V1, V2] false))).set (x + 1) (some (.cells [.i .i64 0, .ns, .ns] false)))) (k := 1) hm.len).trans s1
  have s3 := lenV_of (m := ((m.set x (some (.cells [.i .i64 s.vars, V1, V2] false))).set (x + 1) (some (.cells [.i .i64 0, .ns, .ns] false)))) hm.len
  simp +contextual (disch := omega) [Nat.add_assoc, Int.add_assoc, if_pos, if_neg, -Int.not_lt, -Int.not_le, -Nat.not_lt, -Nat.not_le, -List.length_flatMap, ref11_own.c, s2, s3, -apV_ns]
  refine Bf.new s.md rfl rfl (by omega) ?_
  intro B2 ws m2 p1 pw p2 p3 pb
  have q0 : m2 x = some (.cells [.i .i64 s.vars, V1, V2] false) := by rw [p3 x (by omega)]; simp +contextual (disch := omega) [Nat.add_assoc, Int.add_assoc, if_pos, if_neg, -Int.not_lt, -Int.not_le, -Nat.not_lt, -Nat.not_le, -List.length_flatMap]
  have q1 : m2 (x + 1) = some (.cells [.i .i64 0, .ns, .ns] false) := by rw [p3 (x + 1) (by omega)]; simp +contextual (disch := omega) [Nat.add_assoc, Int.add_assoc, if_pos, if_neg, -Int.not_lt, -Int.not_le, -Nat.not_lt, -Nat.not_le, -List.length_flatMap]
  have qA : ∀ j, j < x → m2 j = m j := fun j hj => by rw [p3 j (by omega)]; simp +contextual (disch := omega) [Nat.add_assoc, Int.add_assoc, if_pos, if_neg, -Int.not_lt, -Int.not_le, -Nat.not_lt, -Nat.not_le, -List.length_flatMap]
  simp +contextual (disch := omega) [Nat.add_assoc, Int.add_assoc, if_pos, if_neg, -Int.not_lt, -Int.not_le, -Nat.not_lt, -Nat.not_le, -List.length_flatMap, p1, q0, p2.stor, p2.cells, -apV_ns]
  rw [IfK_pos ⟨fun a b h => by have := (pw a b h).1; omega, fun a b h => by have := (pw a b h).1; omega, fun h => by have := hr _ h; omega⟩]
  have hfl := hf.len
  refine for_w (fun i e m' x' => ∃ B gs, e 1 = .p x 0 ∧ e 2 = .p (x + 1) 0 ∧ e 3 = .p (x + 8) 0 ∧ e 4 = .i .i64 i ∧ x + 11 ≤ x' ∧ m' x = some (.cells [.i .i64 s.vars, V1, V2] false) ∧ m' (x + 1) = some (.cells [.i .i64 0, .ns, .ns] false) ∧
    m' (x + 8) = some (.cells [.i .i64 s.vars, B, B2] false) ∧ (∀ j, j < x → m' j = m j) ∧ Bf m' B2 cI 1 s.md (x + 2) (x + 8) ∧ Xc m' B (s.cl.take i) gs (x + 9) x') s.cl.length ?_ ?_ ?_
  · refine ⟨.ns, [], ?_⟩
    simp +contextual (disch := omega) [Nat.add_assoc, Int.add_assoc, if_pos, if_neg, -Int.not_lt, -Int.not_le, -Nat.not_lt, -Nat.not_le, -List.length_flatMap, q0]
    refine ⟨q1, qA, ?_, Xc.nil⟩
    exact (p2.up (x' := x + 8) (by omega) (fun j h1 h2 => by simp +contextual (disch := omega) [Nat.add_assoc, Int.add_assoc, if_pos, if_neg, -Int.not_lt, -Int.not_le, -Nat.not_lt, -Nat.not_le, -List.length_flatMap])).low (by omega)
  · rintro i e m' x' hil ⟨B, gs, g1, g2, g3, g4, hx', y0, y1, y8, yA, yB, yC⟩
    obtain ⟨F, hF1, hF2⟩ := hf.at hil
    have hlen := hi.len
    have hfrl := z3 _ (List.getElem_mem hil)
    rcases hi with ⟨rfl, hfs⟩ | ⟨_, h, _⟩ | ⟨a, ro, rfl, ham, hax⟩
    · simp +contextual (disch := omega) [Nat.add_assoc, Int.add_assoc, if_pos, if_neg, -Int.not_lt, -Int.not_le, -Nat.not_lt, -Nat.not_le, -List.length_flatMap, ref11_own.b1, g1, g2, g3, g4, hil, y0, y1, y8, -apV_ns]
      refine Bf.new s.cl[i].frm rfl rfl (by omega) ?_
      intro F' wsF m4 v1 vw v2 v3 vb
      have v8 : m4 (x + 8) = some (.cells [.i .i64 s.vars, B, B2] false) := by rw [v3 _ (by omega)]; simp +contextual (disch := omega) [Nat.add_assoc, Int.add_assoc, if_pos, if_neg, -Int.not_lt, -Int.not_le, -Nat.not_lt, -Nat.not_le, -List.length_flatMap, y8]
      have v9 : m4 (x' + 10) = some (.cells (cC s.cl[i]) false) := by rw [v3 _ (by omega)]; simp +contextual (disch := omega) [Nat.add_assoc, Int.add_assoc, if_pos, if_neg, -Int.not_lt, -Int.not_le, -Nat.not_lt, -Nat.not_le, -List.length_flatMap]
      have w1 : ∀ (a : Nat) (b : Option PObj), (a, b) ∈ wsF → ¬ a = x + 8 := fun a b h => by have := (vw a b h).1; omega
      have w2 : ∀ (a : Nat) (b : Option PObj), (a, b) ∈ wsF → ¬ a = x' + 10 := fun a b h => by have := (vw a b h).1; omega
      simp +contextual (disch := omega) [Nat.add_assoc, Int.add_assoc, if_pos, if_neg, -Int.not_lt, -Int.not_le, -Nat.not_lt, -Nat.not_le, -List.length_flatMap, v1, v8, v9, v2.stor, v2.cells, -apV_ns]
      rw [IfK_pos ⟨w1, w2, by omega⟩]
      have vold : ∀ j, j < x' → m4 j = m' j := fun j h => by rw [v3 j (by omega)]; simp +contextual (disch := omega) [Nat.add_assoc, Int.add_assoc, if_pos, if_neg, -Int.not_lt, -Int.not_le, -Nat.not_lt, -Nat.not_le, -List.length_flatMap]
      refine yC.ap (lo := x + 9) (dl := [s.cl[i]]) (gs := [F']) (fun j h1 h2 => by rw [Sto.sne _ _ _ _ (by omega)]; exact vold j h2) (by omega) (by omega) (by omega) rfl rfl ?_ (by simp; omega) ?_
      · refine ⟨((Rl.Bf v2).up (.eq fun j hj => by rw [Sto.sne _ _ _ _ (by omega)])).mono (fun j hj => ⟨by omega, by omega, by omega⟩), trivial⟩
      · intro B' ws2 m5 r1 r2 r3 r4
        have r8 : m5 (x + 8) = some (.cells [.i .i64 s.vars, B, B2] false) := by rw [r3 _ (by omega), Sto.sne _ _ _ _ (by omega), v8]
        have r0 : m5 x = some (.cells [.i .i64 s.vars, sV cC s.cl, V2] false) := by rw [r3 _ (by omega), Sto.sne _ _ _ _ (by omega), vold _ (by omega), y0]
        have r6 : m5 (x + 1) = some (.cells [.i .i64 0, .ns, .ns] false) := by rw [r3 _ (by omega), Sto.sne _ _ _ _ (by omega), vold _ (by omega), y1]
        have hB' : B'.stor = true ∧ B'.cells = [B'] := ⟨r2.rc.stor, r2.rc.cells⟩
        simp +contextual (disch := omega) [Nat.add_assoc, Int.add_assoc, if_pos, if_neg, -Int.not_lt, -Int.not_le, -Nat.not_lt, -Nat.not_le, -List.length_flatMap, r1, r8, r0, r6, hB'.1, hB'.2, g1, g2, g3, g4]
        have e : s.cl.take (i + 1) = s.cl.take i ++ [s.cl[i]] := List.take_succ_eq_append_getElem hil
        refine ⟨by omega, fun j hj => by rw [r3 _ (by omega), Sto.sne _ _ _ _ (by omega), vold _ (by omega), yA j hj], ?_, gs ++ [F'], ?_⟩
        · exact yB.up (Nat.le_refl _) (fun j h1 h2 => by rw [Sto.sne _ _ _ _ (by omega), r3 _ (by omega), Sto.sne _ _ _ _ (by omega), vold _ (by omega)])
        · rw [e]
          exact r2.up (Nat.le_refl _) (by omega) (fun j h1 h2 => by rw [Sto.sne _ _ _ _ (by omega)])
    · rw [h] at hil; simp at hil
    · have ha := (yA a hax).trans ham
      have hcut : ((trips fs s.cl).drop (i * 3)).take 3 = trip F s.cl[i] := by
        rw [trips_drop hfl, List.drop_eq_getElem_cons (by omega : i < fs.length), List.drop_eq_getElem_cons hil]
        rw [List.getElem?_eq_getElem (by omega)] at hF1
        cases hF1
        rfl
      have htl := trips_len hfl
      have u1 : apCells ((m'.set (x' + 10) (some (.cells [.ns, .i .i64 0, .i .i64 0] false))).set (x' + 10) (some (.cells [F, .i .i64 s.cl[i].to.var, .i .i64 s.cl[i].to.off] false))) 2 F = some (s.cl[i].frm.flatMap cA) :=
        (ap_of hF2.len).trans (hF2.sl _ (.eq fun j hj => by have := hA j hj; rw [Sto.sne _ _ _ _ (by omega), Sto.sne _ _ _ _ (by omega), yA j this]))
      have u2 := lenV_of (m := ((m'.set (x' + 10) (some (.cells [.ns, .i .i64 0, .i .i64 0] false))).set (x' + 10) (some (.cells [F, .i .i64 s.cl[i].to.var, .i .i64 s.cl[i].to.off] false)))) hF2.len
      simp +contextual (disch := omega) [Nat.add_assoc, Int.add_assoc, if_pos, if_neg, -Int.not_lt, -Int.not_le, -Nat.not_lt, -Nat.not_le, -List.length_flatMap, ref11_own.b1, g1, g2, g3, g4, hil, y0, y1, y8, ha, hcut, htl, trip, u1, u2, -apV_ns]
      refine Bf.new s.cl[i].frm rfl rfl (by omega) ?_
      intro F' wsF m4 v1 vw v2 v3 vb
      have v8 : m4 (x + 8) = some (.cells [.i .i64 s.vars, B, B2] false) := by rw [v3 _ (by omega)]; simp +contextual (disch := omega) [Nat.add_assoc, Int.add_assoc, if_pos, if_neg, -Int.not_lt, -Int.not_le, -Nat.not_lt, -Nat.not_le, -List.length_flatMap, y8]
      have v9 : m4 (x' + 10) = some (.cells ([F, .i .i64 s.cl[i].to.var, .i .i64 s.cl[i].to.off]) false) := by rw [v3 _ (by omega)]; simp +contextual (disch := omega) [Nat.add_assoc, Int.add_assoc, if_pos, if_neg, -Int.not_lt, -Int.not_le, -Nat.not_lt, -Nat.not_le, -List.length_flatMap]
      have w1 : ∀ (a : Nat) (b : Option PObj), (a, b) ∈ wsF → ¬ a = x + 8 := fun a b h => by have := (vw a b h).1; omega
      have w2 : ∀ (a : Nat) (b : Option PObj), (a, b) ∈ wsF → ¬ a = x' + 10 := fun a b h => by have := (vw a b h).1; omega
      simp +contextual (disch := omega) [Nat.add_assoc, Int.add_assoc, if_pos, if_neg, -Int.not_lt, -Int.not_le, -Nat.not_lt, -Nat.not_le, -List.length_flatMap, v1, v8, v9, v2.stor, v2.cells, -apV_ns]
      rw [IfK_pos ⟨w1, w2, by omega⟩]
      have vold : ∀ j, j < x' → m4 j = m' j := fun j h => by rw [v3 j (by omega)]; simp +contextual (disch := omega) [Nat.add_assoc, Int.add_assoc, if_pos, if_neg, -Int.not_lt, -Int.not_le, -Nat.not_lt, -Nat.not_le, -List.length_flatMap]
      refine yC.ap (lo := x + 9) (dl := [s.cl[i]]) (gs := [F']) (fun j h1 h2 => by rw [Sto.sne _ _ _ _ (by omega)]; exact vold j h2) (by omega) (by omega) (by omega) rfl rfl ?_ (by simp; omega) ?_
      · refine ⟨((Rl.Bf v2).up (.eq fun j hj => by rw [Sto.sne _ _ _ _ (by omega)])).mono (fun j hj => ⟨by omega, by omega, by omega⟩), trivial⟩
      · intro B' ws2 m5 r1 r2 r3 r4
        have r8 : m5 (x + 8) = some (.cells [.i .i64 s.vars, B, B2] false) := by rw [r3 _ (by omega), Sto.sne _ _ _ _ (by omega), v8]
        have r0 : m5 x = some (.cells [.i .i64 s.vars, .ms a 0 s.cl.length 3, V2] false) := by rw [r3 _ (by omega), Sto.sne _ _ _ _ (by omega), vold _ (by omega), y0]
        have r6 : m5 (x + 1) = some (.cells [.i .i64 0, .ns, .ns] false) := by rw [r3 _ (by omega), Sto.sne _ _ _ _ (by omega), vold _ (by omega), y1]
        have hB' : B'.stor = true ∧ B'.cells = [B'] := ⟨r2.rc.stor, r2.rc.cells⟩
        simp +contextual (disch := omega) [Nat.add_assoc, Int.add_assoc, if_pos, if_neg, -Int.not_lt, -Int.not_le, -Nat.not_lt, -Nat.not_le, -List.length_flatMap, r1, r8, r0, r6, hB'.1, hB'.2, g1, g2, g3, g4]
        have e : s.cl.take (i + 1) = s.cl.take i ++ [s.cl[i]] := List.take_succ_eq_append_getElem hil
        refine ⟨by omega, fun j hj => by rw [r3 _ (by omega), Sto.sne _ _ _ _ (by omega), vold _ (by omega), yA j hj], ?_, gs ++ [F'], ?_⟩
        · exact yB.up (Nat.le_refl _) (fun j h1 h2 => by rw [Sto.sne _ _ _ _ (by omega), r3 _ (by omega), Sto.sne _ _ _ _ (by omega), vold _ (by omega)])
        · rw [e]
          exact r2.up (Nat.le_refl _) (by omega) (fun j h1 h2 => by rw [Sto.sne _ _ _ _ (by omega)])
  · rintro e m' x' ⟨B, gs, g1, g2, g3, g4, hx', y0, y1, y8, yA, yB, yC⟩
    simp +contextual (disch := omega) [Nat.add_assoc, Int.add_assoc, if_pos, if_neg, -Int.not_lt, -Int.not_le, -Nat.not_lt, -Nat.not_le, -List.length_flatMap, ref11_own.b1, g1, g2, g3, g4, y0, y1, y8, hi.len]
    rw [List.take_length] at yC
    refine hK B B2 gs _ _ (by omega) (fun j hj => by simp +contextual (disch := omega) [Nat.add_assoc, Int.add_assoc, if_pos, if_neg, -Int.not_lt, -Int.not_le, -Nat.not_lt, -Nat.not_le, -List.length_flatMap, yA]) (yC.up (by omega) (by omega) (fun j h1 h2 => by simp +contextual (disch := omega) [Nat.add_assoc, Int.add_assoc, if_pos, if_neg, -Int.not_lt, -Int.not_le, -Nat.not_lt, -Nat.not_le, -List.length_flatMap])) ?_ ?_
    · exact (yB.up (x' := x' + 7) (by omega) (fun j h1 h2 => by simp +contextual (disch := omega) [Nat.add_assoc, Int.add_assoc, if_pos, if_neg, -Int.not_lt, -Int.not_le, -Nat.not_lt, -Nat.not_le, -List.length_flatMap])).low (by omega)
    · intro a n e
      have hlo : a < x + 8 := by
        rcases yB with ⟨h1, _⟩ | ⟨b, cs, h1, _, _, _, h2⟩
        · rw [h1] at e; cases e
        · rw [h1] at e; injection e with e1; omega
      exact yC.up (by omega) (by omega) (fun j h1 h2 => by simp +contextual (disch := omega) [Nat.add_assoc, Int.add_assoc, if_pos, if_neg, -Int.not_lt, -Int.not_le, -Nat.not_lt, -Nat.not_le, -List.length_flatMap])
end Pi


set_option linter.unusedSimpArgs false
set_option linter.unusedVariables false
namespace Pi
set_option maxHeartbeats 1000000 in
theorem store_keeper_put.w {m : Sto} {x y : Nat} {vars : Int} {K : CR → Sto → Nat → Prop} {A G : Nat → Prop} {B1 B2 W : V} {cl dl : List C} {fs gs : List V} (hAx : ∀ j, A j → j < x) (hGx : ∀ j, G j → j < x) (hy : ¬ A y ∧ ¬ G y ∧ y < x) (hAG : ∀ j, A j → ¬ G j) (hm : m y = some (.cells [.i .i64 vars, B1, B2] false)) (hx : Xa A m B1 cl fs)
    (hd : slCells m 3 W = some (trips gs dl)) (hdl : lenSl W = some dl.length) (hg : Fr G m gs dl)
    (z1 : cl.length ≤ 1000) (z2 : dl.length ≤ 1000000) (z3 : ∀ c ∈ cl ++ dl, c.frm.length ≤ 9223372036854775807) (hR : rightC vars (cl ++ dl) = true)
    (hK : ∀ B m' x', x + 9 ≤ x' → (∀ j, j < x → ¬ A j → ¬ G j → j ≠ y → m' j = m j) → Rc (fun j => A j ∨ G j ∨ j = x + 8) m' B (cl ++ dl) (fs ++ gs) → m' y = some (.cells [.i .i64 vars, B, sV cI (solveC vars.toNat (cl ++ dl)).1] false) → K (.ret (.b (solveC vars.toNat (cl ++ dl)).2.1)) m' x') :
    w ctx (envOf [.p y 0, W]) m x [] none none (RetG ctx store_keeper_put.c.rs K) store_keeper_put.c.code := by
  have h1 := ap_of (m := m) (k := 3) hdl
  have h2 := lenV_of (m := m) hdl
  rw [hd] at h1
  have hS := solve_Solve.a vars (cl ++ dl) (by simp; omega) z3
  rw [solveV, if_pos hR] at hS
  simp +contextual (disch := omega) [Nat.add_assoc, Int.add_assoc, if_pos, if_neg, -Int.not_lt, -Int.not_le, -Nat.not_lt, -Nat.not_le, -List.length_flatMap, store_keeper_put.c, hm, h1, h2, -apV_ns]
  refine hx.ap rfl rfl hg hAG (fun h => by have := hAx _ h; omega) (fun h => by have := hGx _ h; omega) (by omega) ?_
  intro B ws m5 r1 r2 r3
  have ry : m5 y = some (.cells [.i .i64 vars, B1, B2] false) := by rw [r3 y hy.1 (by omega), hm]
  have rc := r2.rc
  have hny : ∀ j, (A j ∨ G j ∨ j = x + 8) → j ≠ y := by
    rintro j (h | h | h) e
    · exact hy.1 (e ▸ h)
    · exact hy.2.1 (e ▸ h)
    · omega
  have r2' := (r2.up (m' := m5.set y (some (.cells [.i .i64 vars, B, B2] false))) (fun j h1 => by rw [Sto.sne _ _ _ _ (hny j h1)]) (fun _ h => h)).rc
  obtain ⟨ids, hz, hid⟩ := r2'.fz24
  have hyi : y ∉ ids := fun h => hny y (hid y h) rfl
  have ha : ∀ u, aft u (m5.set y (some (.cells [.i .i64 vars, B, B2] false))) ids y = some (.cells [.i .i64 vars, B, B2] false) := fun u => by rw [aft_none _ _ _ _ hyi, Sto.seq]
  simp +contextual (disch := omega) [Nat.add_assoc, Int.add_assoc, if_pos, if_neg, -Int.not_lt, -Int.not_le, -Nat.not_lt, -Nat.not_le, -List.length_flatMap, r1, ry, rc.stor, rc.cells, hz, ansK hS, ha]
  refine hK B _ _ (by omega) (fun j h1 h2 h3 h4 => ?_) ?_ ?_
  · rw [Sto.sne _ _ _ _ h4, aft_none _ _ _ _ (fun h => ?_), Sto.sne _ _ _ _ h4, r3 j h2 (by omega)]
    rcases hid j h with h | h | h
    · exact h2 h
    · exact h3 h
    · omega
  · exact r2'.up (.trans (.aft _ _ _) (.eq fun j hj => by rw [Sto.sne _ _ _ _ (hny j hj)])) (fun j hj => hj)
  · rw [Sto.seq]
theorem right_app {vars : Int} {a b : List C} (h1 : rightC vars a = true) (h2 : rightC vars b = true) (h3 : a.length + b.length ≤ 60) : rightC vars (a ++ b) = true := by
  obtain ⟨a1, a2, a3, a4⟩ := right_ok h1
  obtain ⟨b1, b2, b3, b4⟩ := right_ok h2
  simp [rightC]
  exact ⟨by omega, a4, b4⟩
/-- What Add tells. -/
def addV (s : St) (l : List C) : V :=
  if rightS s = false then .tu [.ag (cS s), sV cI [], .i .i64 1]
  else if 60 < s.cl.length + l.length then .tu [.ag (cS s), sV cI [], .i .i64 2]
  else if rightC s.vars l = false then .tu [.ag (cS s), sV cI [], .i .i64 1]
  else if (solveC s.vars.toNat (s.cl ++ l)).2.1 = false then .tu [.ag (cS s), sV cI (intL (coreL s.vars.toNat (s.cl ++ l))), .i .i64 30]
  else .tu [.ag (cS ⟨s.vars, s.cl ++ l, (solveC s.vars.toNat (s.cl ++ l)).1⟩), sV cI [], .i .i64 0]
/-- Stores that are not great. -/
def St.Few (s : St) : Prop := s.Sz ∧ s.cl.length ≤ 1000 ∧ s.md.length ≤ 1000 ∧ ∀ c ∈ s.cl, c.frm.length ≤ 1000
theorem store_Add.a (s : St) (l : List C) (hs : s.Few) (hl : l.length ≤ 1000000) (hf : ∀ c ∈ l, c.frm.length ≤ 9223372036854775807) : Ans ctx store_Add.n [.ag (cS s), sV cC l] (addV s l) := by
  refine ans store_Add.f ?_
  have hR := store_Right.a s hs.1
  obtain ⟨hok, z1, z2, z3⟩ := hs
  have hag : ∀ (D : Nat → Option (Bool × List V × List V × List Nat)), frzL D [.ag (cS s)] = some ([.ag (cS s)], []) := fun D => by simp
  simp +contextual (disch := omega) [Nat.add_assoc, Int.add_assoc, if_pos, if_neg, -Int.not_lt, -Int.not_le, -Nat.not_lt, -Nat.not_le, -List.length_flatMap, store_Add.c, cS]
  rw [CallQ_op (by rfl)]
  refine openq_w rfl rfl rfl rfl (a := [.ag [.i .i64 s.vars, sV cC s.cl, sV cI s.md]]) (by simp [freezeL]) ?_
  refine store_own.w (A := fun _ => False) (Rc.sV _ _ s.cl) (Rl.sV _ _ s.md) (fun j h => h.elim) z1 z2 z3 ?_
  intro B1 B2 gs m1 x1 hx1 hm1 hX1 hB1 hO1
  obtain ⟨o1, o2, o3⟩ := hO1 Own.nil (by intro F hF; obtain ⟨c, _, rfl⟩ := List.mem_map.1 hF; rfl) rfl rfl
  refine ⟨by simp [V.over, overL, o2, o3], fun j h1 _ => o1 j h1, fun ws1 ids1 w1 w2 w3 => ?_⟩
  obtain ⟨M1, hM1⟩ : ∃ M1, M1 = ((Sto.set (fun x => none) 0 (some (PObj.cells [V.i .i64 s.vars, sV cC s.cl, sV cI s.md] false))).set 1 (some (PObj.cells [V.i .i64 0, V.ns, V.ns] false))).app ws1 := ⟨_, rfl⟩
  have e0 : M1 0 = some (.cells [.i .i64 s.vars, sV cC s.cl, sV cI s.md] false) := by rw [hM1, w3, if_neg (by omega)]; simp +contextual (disch := omega) [Nat.add_assoc, Int.add_assoc, if_pos, if_neg, -Int.not_lt, -Int.not_le, -Nat.not_lt, -Nat.not_le, -List.length_flatMap]
  have e1 : M1 1 = some (.cells [.i .i64 0, .ns, .ns] false) := by rw [hM1, w3, if_neg (by omega)]; simp +contextual (disch := omega) [Nat.add_assoc, Int.add_assoc, if_pos, if_neg, -Int.not_lt, -Int.not_le, -Nat.not_lt, -Nat.not_le, -List.length_flatMap]
  have eA : ∀ j, 5 ≤ j → j < x1 → M1 j = m1 j := fun j h1 h2 => by rw [hM1, w3, if_pos ⟨h1, h2⟩]
  have hx : 5 + (x1 - 5) = x1 := by omega
  simp +contextual (disch := omega) [Nat.add_assoc, Int.add_assoc, if_pos, if_neg, -Int.not_lt, -Int.not_le, -Nat.not_lt, -Nat.not_le, -List.length_flatMap, hM1.symm, hx, w2, e0]
  rw [CallQ_op (by rfl)]
  refine openq_w rfl rfl rfl rfl (a := [.ag [.i .i64 s.vars, sV cC s.cl, sV cI s.md]]) (by simp [freezeL]) ?_
  refine store_own.w (A := fun _ => False) (Rc.sV _ _ s.cl) (Rl.sV _ _ s.md) (fun j h => h.elim) z1 z2 z3 ?_
  intro C1 C2 hs' m2 x2 hx2 hm2 hX2 hB2 hO2
  obtain ⟨p1, p2, p3⟩ := hO2 Own.nil (by intro F hF; obtain ⟨c, _, rfl⟩ := List.mem_map.1 hF; rfl) rfl rfl
  refine ⟨by simp [V.over, overL, p2, p3], fun j h1 _ => p1 j h1, fun ws2 ids2 u1 u2 u3 => ?_⟩
  obtain ⟨M2, hM2⟩ : ∃ M2, M2 = M1.app ws2 := ⟨_, rfl⟩
  have d0 : M2 0 = some (.cells [.i .i64 s.vars, sV cC s.cl, sV cI s.md] false) := by rw [hM2, u3, if_neg (by omega), e0]
  have d1 : M2 1 = some (.cells [.i .i64 0, .ns, .ns] false) := by rw [hM2, u3, if_neg (by omega), e1]
  have dA : ∀ j, 5 ≤ j → j < x1 → M2 j = m1 j := fun j h1 h2 => by rw [hM2, u3, if_neg (by omega)]; exact eA j h1 h2
  have dB : ∀ j, x1 + 1 ≤ j → j < x2 → M2 j = m2 j := fun j h1 h2 => by rw [hM2, u3, if_pos (by omega)]
  simp +contextual (disch := omega) [Nat.add_assoc, Int.add_assoc, if_pos, if_neg, -Int.not_lt, -Int.not_le, -Nat.not_lt, -Nat.not_le, -List.length_flatMap, hM2.symm, u2, d0]
  rw [IfK_pos ⟨fun l h => by have := w1 l h; omega, by omega, ⟨fun l h => by have := w1 l h; omega, fun h => by have := w1 _ h; omega⟩, by omega, ⟨fun l h => by have := u1 l h; omega, fun h => by have := u1 _ h; omega⟩, ⟨fun l h => by have := w1 l h; omega, fun h => by have := w1 _ h; omega⟩, fun l h => by have := u1 l h; omega, fun h => by have := u1 _ h; omega⟩]
  have hR' : Ans ctx store_Right.n [.ag [.i .i64 s.vars, sV cC s.cl, sV cI s.md]] (.b (rightS s)) := hR
  have hH := horn_Right.a s.vars l (by omega) hf
  have hBf := fun (m' : Sto) (h : ∀ j, 5 ≤ j → j < x1 → m' j = m1 j) => (hB1.up (m' := m') (Nat.le_refl _) h).fz24
  have hXf := fun (m' : Sto) (h : ∀ j, 5 ≤ j → j < x1 → m' j = m1 j) => (hX1.up (m' := m') (Nat.le_refl _) (Nat.le_refl _) h).rc.fz24
  obtain ⟨M3, hM3⟩ : ∃ M3, M3 = (((((M2.set x2 (some (.cells [.i .i64 0, .ns, .ns] false))).set (x2 + 1) (some (.cells [.i .i64 0, .ns, .ns] false))).set x2 (some (.cells [.i .i64 s.vars, B1, B2] false))).set
    (x2 + 1) (some (.cells [.i .i64 s.vars, C1, C2] false))).set 1 (some (.cells [.i .i64 s.vars, B1, B2] false))) := ⟨_, rfl⟩
  have hM3A : ∀ j, 5 ≤ j → j < x1 → M3 j = m1 j := fun j h1 h2 => by
    rw [hM3, Sto.sne _ _ _ _ (by omega), Sto.sne _ _ _ _ (by omega), Sto.sne _ _ _ _ (by omega), Sto.sne _ _ _ _ (by omega), Sto.sne _ _ _ _ (by omega)]
    exact dA j h1 h2
  obtain ⟨i1, f1, _⟩ := hXf M3 hM3A
  have f2 := hBf M3 hM3A
  have f0 : M3 1 = some (.cells [.i .i64 s.vars, B1, B2] false) := by rw [hM3, Sto.seq]
  unfold addV
  by_cases c1 : rightS s = false
  · rw [if_pos c1]
    simp +contextual (disch := omega) [Nat.add_assoc, Int.add_assoc, if_pos, if_neg, -Int.not_lt, -Int.not_le, -Nat.not_lt, -Nat.not_le, -List.length_flatMap, ansK hR', c1, d0, d1, hM3.symm, f0, f1, f2, cS]
  · rw [if_neg c1]
    have c1' : rightS s = true := by simpa using c1
    by_cases c2 : 60 < s.cl.length + l.length
    · rw [if_pos c2]
      simp +contextual (disch := omega) [Nat.add_assoc, Int.add_assoc, if_pos, if_neg, -Int.not_lt, -Int.not_le, -Nat.not_lt, -Nat.not_le, -List.length_flatMap, ansK hR', c1', c2, d0, d1, hM3.symm, f0, f1, f2, cS]
    · rw [if_neg c2]
      by_cases c3 : rightC s.vars l = false
      · rw [if_pos c3]
        simp +contextual (disch := omega) [Nat.add_assoc, Int.add_assoc, if_pos, if_neg, -Int.not_lt, -Int.not_le, -Nat.not_lt, -Nat.not_le, -List.length_flatMap, ansK hR', c1', c2, d0, d1, ansK hH, c3, hM3.symm, f0, f1, f2, cS]
      · rw [if_neg c3]
        have c3' : rightC s.vars l = true := by simpa using c3
        simp +contextual (disch := omega) [Nat.add_assoc, Int.add_assoc, if_pos, if_neg, -Int.not_lt, -Int.not_le, -Nat.not_lt, -Nat.not_le, -List.length_flatMap, ansK hR', c1', d0, d1, ansK hH, c3']
        rw [CallX_op (by rfl)]
        refine openg_w rfl rfl (.inl rfl) ?_
        have hRc : rightC s.vars s.cl = true := by
          unfold rightS at c1'
          simp only [Bool.and_eq_true] at c1'
          exact c1'.1.1
        have hRa := right_app hRc c3' (by omega)
        refine store_keeper_put.w (A := fun j => x1 + 1 ≤ j ∧ j < x2) (G := fun _ => False) (fun j h => by omega) (fun j h => h.elim) ⟨by omega, fun h => h, by omega⟩ (fun _ _ h => h) (by rw [Sto.seq]) (hX2.xa.up (fun j h => ?_) (fun j h => by omega)) (by rw [trips_sv]; exact slCells_sV _ l) rfl (Fr.sv _ _ l) z1 (by omega) ?_ hRa ?_
        · rw [Sto.sne _ _ _ _ (by omega), Sto.sne _ _ _ _ (by omega), Sto.sne _ _ _ _ (by omega), Sto.sne _ _ _ _ (by omega)]
          exact dB j h.1 h.2
        · intro c hc
          rcases List.mem_append.1 hc with hc | hc
          · exact hok.2 c hc
          · exact hf c hc
        · intro B m3 x3 h3x h3m h3r h3y
          have k2 : ∀ j, j < x2 → ¬ (x1 + 1 ≤ j) → m3 j = M2 j := fun j q1 q2 => by
            rw [h3m j (by omega) (by omega) (fun h => h) (by omega), Sto.sne _ _ _ _ (by omega), Sto.sne _ _ _ _ (by omega), Sto.sne _ _ _ _ (by omega), Sto.sne _ _ _ _ (by omega)]
          have k0 : m3 0 = some (.cells [.i .i64 s.vars, sV cC s.cl, sV cI s.md] false) := by rw [k2 0 (by omega) (by omega), d0]
          have k1 : m3 1 = some (.cells [.i .i64 0, .ns, .ns] false) := by rw [k2 1 (by omega) (by omega), d1]
          have kx : m3 x2 = some (.cells [.i .i64 s.vars, B1, B2] false) := by
            rw [h3m x2 (by omega) (by omega) (fun h => h) (by omega), Sto.sne _ _ _ _ (by omega), Sto.seq]
          have hfz : ctx.frz store_keeper_put.n = false := rfl
          rw [hfz]
          obtain ⟨ids, hz, hid⟩ := h3r.fz24
          have hC := core_Core.a s.vars (s.cl ++ l) (by simp; omega) (fun c hc => by
            rcases List.mem_append.1 hc with hc | hc
            · exact hok.2 c hc
            · exact hf c hc)
          rw [coreV, if_pos hRa] at hC
          by_cases c4 : (solveC s.vars.toNat (s.cl ++ l)).2.1 = false
          · have hlost : lostC s.vars.toNat (s.cl ++ l) = true := by unfold lostC; rw [c4]; rfl
            rw [if_pos hlost] at hC
            rw [if_pos c4]
            have hin : ∀ j, j < x1 + 1 ∨ j = x2 → j ∉ ids := fun j hj h => by
              rcases hid j h with h | h | h
              · omega
              · exact h
              · omega
            have a1 : ∀ u, aft u m3 ids 1 = some (.cells [.i .i64 0, .ns, .ns] false) := fun u => by rw [aft_none _ _ _ _ (hin 1 (by omega)), k1]
            have ax : ∀ u, aft u m3 ids x2 = some (.cells [.i .i64 s.vars, B1, B2] false) := fun u => by rw [aft_none _ _ _ _ (hin x2 (by omega)), kx]
            obtain ⟨u, hu⟩ : ∃ u : V, u = .tu [sV cI (intL (coreL s.vars.toNat (s.cl ++ l))), .i .i64 0] := ⟨_, rfl⟩
            obtain ⟨M5, hM5⟩ : ∃ M5, M5 = (aft u m3 ids).set 1 (some (.cells [.i .i64 s.vars, B1, B2] false)) := ⟨_, rfl⟩
            have hM5A : ∀ j, 5 ≤ j → j < x1 → M5 j = m1 j := fun j h1 h2 => by
              rw [hM5, Sto.sne _ _ _ _ (by omega), aft_none _ _ _ _ (hin j (by omega)), k2 j (by omega) (by omega)]
              exact dA j h1 h2
            obtain ⟨i5, f5, _⟩ := hXf M5 hM5A
            have f6 := hBf M5 hM5A
            have f7 : M5 1 = some (.cells [.i .i64 s.vars, B1, B2] false) := by rw [hM5, Sto.seq]
            rw [hu] at hM5
            simp +contextual (disch := omega) [Nat.add_assoc, Int.add_assoc, if_pos, if_neg, -Int.not_lt, -Int.not_le, -Nat.not_lt, -Nat.not_le, -List.length_flatMap, c4, k0, k1, kx, h3y, hz, ansK hC, a1, ax, hM5.symm, f5, f6, f7, cS]
          · rw [if_neg c4]
            have c4' : (solveC s.vars.toNat (s.cl ++ l)).2.1 = true := by simpa using c4
            simp +contextual (disch := omega) [Nat.add_assoc, Int.add_assoc, if_pos, if_neg, -Int.not_lt, -Int.not_le, -Nat.not_lt, -Nat.not_le, -List.length_flatMap, c4', k0, k1, kx, h3y]
            rw [CallX_op (by rfl)]
            refine openg_w rfl rfl (.inl rfl) ?_
            have hfo : ctx.frz store_own.n = false := rfl
            rw [hfo]
            refine store_own.w (s := ⟨s.vars, s.cl ++ l, (solveC s.vars.toNat (s.cl ++ l)).1⟩) h3r (Rl.sV (fun _ => False) _ _ |>.mono (fun j h => h.elim)) (fun j hj => by
              rcases hj with h | h | h
              · omega
              · exact h.elim
              · omega) (by simp; omega) (by have := solveC_len s.vars (s.cl ++ l) hRa; simp only; omega) (fun c hc => Nat.le_trans (okC_six ((right_ok hRa).2.2.2 c hc)) (by omega)) ?_
            intro E1 E2 gs' m5 x5 hx5 hm5 hX5 hB5 _
            have e1' : m5 1 = some (.cells [.i .i64 0, .ns, .ns] false) := by rw [hm5 1 (by omega), k1]
            obtain ⟨i8, f8, _⟩ := (hX5.up (m' := m5.set 1 (some (.cells [.i .i64 s.vars, E1, E2] false))) (Nat.le_refl _) (Nat.le_refl _) (fun j h1 h2 => by rw [Sto.sne _ _ _ _ (by omega)])).rc.fz24
            have f9 := (hB5.up (m' := m5.set 1 (some (.cells [.i .i64 s.vars, E1, E2] false))) (Nat.le_refl _) (fun j h1 h2 => by rw [Sto.sne _ _ _ _ (by omega)])).fz24
            simp +contextual (disch := omega) [Nat.add_assoc, Int.add_assoc, if_pos, if_neg, -Int.not_lt, -Int.not_le, -Nat.not_lt, -Nat.not_le, -List.length_flatMap, e1', f8, f9, cS]
end Pi


set_option linter.unusedSimpArgs false
set_option linter.unusedVariables false
namespace Pi
theorem right_app_not {vars : Int} {a b : List C} (h2 : rightC vars b = false) (h1 : rightC vars a = true) (h3 : a.length + b.length ≤ 60) : rightC vars (a ++ b) = false := by
  cases h : rightC vars (a ++ b) with
  | false => rfl
  | true =>
    obtain ⟨a1, a2, a3, a4⟩ := right_ok h
    have : rightC vars b = true := by
      simp [rightC]
      exact ⟨by omega, fun c hc => a4 c (List.mem_append_right _ hc)⟩
    rw [h2] at this
    cases this
theorem Xa.ic {A : Nat → Prop} {m m' : Sto} {B : V} {cl : List C} {fs : List V} {x : Nat} (h : Xa A m B cl fs) (u : V) (ids : List Nat) (hm : ∀ j, A j → m' j = aft u m ids j) (hA : ∀ j, A j → j < x) : Ic m' B cl fs x := by
  rcases h with ⟨h1, h2, h3⟩ | ⟨a, h1, h2, h3, h4⟩
  · exact .inr (.inl ⟨h1, h2, h3⟩)
  · obtain ⟨r, e⟩ := aft_cells u ids m a _ _ h2
    exact .inr (.inr ⟨a, r, h1, by rw [hm a h3, e], hA a h3⟩)
theorem or3 {a b : Prop} (h : a ∨ False ∨ b) : a ∨ b := by
  rcases h with h | h | h
  · exact .inl h
  · exact h.elim
  · exact .inr h
end Pi


set_option linter.unusedSimpArgs false
set_option linter.unusedVariables false
namespace Pi
theorem slices_IndexFunc_Atom.a (l : List A) (g : Nat) (caps : List V) (p : A → Bool) (hg : (ctx.opn g || ctx.frz g) = false) (hpr : ctx.prim g = none) (hc : ∀ D, frzL D caps = some (caps, [])) (h : ∀ k ∈ l, Ans ctx g ((.ag (cA k)) :: caps) (.b (p k))) (hl : l.length ≤ 9223372036854775807) :
    Ans ctx slices_IndexFunc_Atom.n [sV cA l, .fn (.func g) [] caps] (.i .i64 (idxS p l)) := by
  refine ans slices_IndexFunc_Atom.f ?_
  simp +contextual (disch := omega) [Nat.add_assoc, Int.add_assoc, if_pos, if_neg, -Int.not_lt, -Int.not_le, -Nat.not_lt, -Nat.not_le, -List.length_flatMap, slices_IndexFunc_Atom.c]
  refine for_w (fun i e m x => e 0 = sV cA l ∧ e 1 = .fn (.func g) [] caps ∧ e 7 = .i .i64 l.length ∧ e 8 = .i .i64 i ∧ (l.take i).all (fun a => !p a) = true) l.length ?_ ?_ ?_
  · simp +contextual (disch := omega) [Nat.add_assoc, Int.add_assoc, if_pos, if_neg, -Int.not_lt, -Int.not_le, -Nat.not_lt, -Nat.not_le, -List.length_flatMap]
  · rintro i e m x hi ⟨g1, g2, g3, g4, g5⟩
    have hk := h l[i] (List.getElem_mem hi)
    obtain ⟨q1, q2⟩ := idx_take hi g5
    cases hp : p l[i] with
    | true =>
      rw [hp] at hk
      simp +contextual (disch := omega) [Nat.add_assoc, Int.add_assoc, if_pos, if_neg, -Int.not_lt, -Int.not_le, -Nat.not_lt, -Nat.not_le, -List.length_flatMap, slices_IndexFunc_Atom.b1, g1, g2, g3, g4, hi, CallX_cl (C := ctx) (g := g) hpr (orF hg).1 (orF hg).2, hc, ansK hk, q1 hp]
    | false =>
      rw [hp] at hk
      simp +contextual (disch := omega) [Nat.add_assoc, Int.add_assoc, if_pos, if_neg, -Int.not_lt, -Int.not_le, -Nat.not_lt, -Nat.not_le, -List.length_flatMap, slices_IndexFunc_Atom.b1, g1, g2, g3, g4, hi, CallX_cl (C := ctx) (g := g) hpr (orF hg).1 (orF hg).2, hc, ansK hk, q2 hp]
  · rintro e m x ⟨g1, g2, g3, g4, g5⟩
    rw [List.take_length] at g5
    simp +contextual (disch := omega) [Nat.add_assoc, Int.add_assoc, if_pos, if_neg, -Int.not_lt, -Int.not_le, -Nat.not_lt, -Nat.not_le, -List.length_flatMap, slices_IndexFunc_Atom.b1, g1, g2, g3, g4, idx_all g5]
theorem slices_ContainsFunc_Atom.a (l : List A) (g : Nat) (caps : List V) (p : A → Bool) (hg : (ctx.opn g || ctx.frz g) = false) (hpr : ctx.prim g = none) (hc : ∀ D, frzL D caps = some (caps, [])) (h : ∀ k ∈ l, Ans ctx g ((.ag (cA k)) :: caps) (.b (p k))) (hl : l.length ≤ 9223372036854775807) :
    Ans ctx slices_ContainsFunc_Atom.n [sV cA l, .fn (.func g) [] caps] (.b (l.any p)) := by
  refine ans slices_ContainsFunc_Atom.f ?_
  simp +contextual (disch := omega) [Nat.add_assoc, Int.add_assoc, if_pos, if_neg, -Int.not_lt, -Int.not_le, -Nat.not_lt, -Nat.not_le, -List.length_flatMap, slices_ContainsFunc_Atom.c, hc, ansK (slices_IndexFunc_Atom.a l g caps p hg hpr hc h hl), idx_ge]
/-- What is not so: a is more than each of b. -/
def againstL (a : A) (b : List A) : List C := b.map fun x => ⟨[a], ⟨x.var, x.off + 1⟩⟩
def greatA (x : A) : Bool := decide (1000 ≤ x.off)
def followsV (s : St) (a : A) (b : List A) : V :=
  if rightS s = false ∨ rightC s.vars [⟨b, a⟩] = false then .tu [.b false, .i .i64 1]
  else if 60 < s.cl.length + b.length ∨ b.any greatA = true then .tu [.b false, .i .i64 2]
  else .tu [.b (!(solveC s.vars.toNat (s.cl ++ againstL a b)).2.1), .i .i64 0]
theorem against_len (a : A) (b : List A) : (againstL a b).length = b.length := by simp [againstL]
theorem against_frm {a : A} {b : List A} : ∀ c ∈ againstL a b, c.frm.length = 1 := by
  intro c hc
  obtain ⟨x, _, rfl⟩ := List.mem_map.1 hc
  rfl
theorem against_right {vars : Int} {a : A} {b : List A} (h : rightC vars [⟨b, a⟩] = true) (hb : b.any greatA = false) (hl : b.length ≤ 60) : rightC vars (againstL a b) = true := by
  obtain ⟨r1, r2, r3, r4⟩ := right_ok h
  have hc := r4 ⟨b, a⟩ (List.mem_singleton.2 rfl)
  simp only [okC, Bool.and_eq_true, List.all_eq_true] at hc
  simp [rightC, against_len]
  refine ⟨by omega, fun c hcc => ?_⟩
  obtain ⟨x, hx, rfl⟩ := List.mem_map.1 hcc
  have h1 := hc.2 x (by simp [hx])
  have h2 := hc.2 a (by simp)
  have h3 : greatA x = false := by
    rw [List.any_eq_false] at hb
    simpa using hb x hx
  unfold greatA at h3
  simp [okC, manyC, okA] at h1 h2 h3 ⊢
  omega
theorem store_Follows_1.a (x : A) : Ans ctx store_Follows_1.n [.ag (cA x)] (.b (greatA x)) := by
  refine ans store_Follows_1.f ?_
  unfold greatA
  simp +contextual (disch := omega) [Nat.add_assoc, Int.add_assoc, if_pos, if_neg, -Int.not_lt, -Int.not_le, -Nat.not_lt, -Nat.not_le, -List.length_flatMap, store_Follows_1.c]
set_option maxHeartbeats 1000000 in
theorem store_Follows.a (s : St) (a : A) (b : List A) (hs : s.Few) (hb : b.length ≤ 1000000) : Ans ctx store_Follows.n [.ag (cS s), .ag (cA a), sV cA b] (followsV s a b) := by
  refine ans store_Follows.f ?_
  have hR := store_Right.a s hs.1
  obtain ⟨hok, z1, z2, z3⟩ := hs
  have hH : Ans ctx horn_Right.n [.i .i64 s.vars, .sl (sV cA b :: cA a) 1] (.b (rightC s.vars [⟨b, a⟩])) := horn_Right.a s.vars [⟨b, a⟩] (by simp) (by simp; omega)
  have hC := slices_ContainsFunc_Atom.a b store_Follows_1.n [] greatA rfl rfl (by simp) (fun k _ => store_Follows_1.a k) (by omega)
  unfold followsV
  cases c1 : rightS s with
  | false =>
    rw [c1] at hR
    simp +contextual (disch := omega) [Nat.add_assoc, Int.add_assoc, if_pos, if_neg, -Int.not_lt, -Int.not_le, -Nat.not_lt, -Nat.not_le, -List.length_flatMap, store_Follows.c, ansK hR]
  | true =>
    rw [c1] at hR
    cases c2 : rightC s.vars [⟨b, a⟩] with
    | false =>
      rw [c2] at hH
      simp +contextual (disch := omega) [Nat.add_assoc, Int.add_assoc, if_pos, if_neg, -Int.not_lt, -Int.not_le, -Nat.not_lt, -Nat.not_le, -List.length_flatMap, store_Follows.c, ansK hR, ansK hH]
    | true =>
      rw [c2] at hH
      by_cases c3 : 60 < s.cl.length + b.length
      · simp +contextual (disch := omega) [Nat.add_assoc, Int.add_assoc, if_pos, if_neg, -Int.not_lt, -Int.not_le, -Nat.not_lt, -Nat.not_le, -List.length_flatMap, store_Follows.c, ansK hR, ansK hH, c3]
      · cases c4 : b.any greatA with
        | true =>
          rw [c4] at hC
          simp +contextual (disch := omega) [Nat.add_assoc, Int.add_assoc, if_pos, if_neg, -Int.not_lt, -Int.not_le, -Nat.not_lt, -Nat.not_le, -List.length_flatMap, store_Follows.c, ansK hR, ansK hH, c3, ansK hC]
        | false =>
          rw [c4] at hC
          simp +contextual (disch := omega) [Nat.add_assoc, Int.add_assoc, if_pos, if_neg, -Int.not_lt, -Int.not_le, -Nat.not_lt, -Nat.not_le, -List.length_flatMap, store_Follows.c, ansK hR, ansK hH, c3, ansK hC]
          refine for_w (fun i e m x => ∃ B gs, e 3 = .p 0 0 ∧ e 4 = .p 1 0 ∧ e 9 = B ∧ e 36 = sV cA b ∧ e 37 = .i .i64 b.length ∧ e 38 = .i .i64 i ∧ m 0 = some (.cells (cS s) false) ∧ m 1 = some (.cells (cA a) false) ∧ 31 ≤ x ∧ Xc m B (againstL a (b.take i)) gs 20 x) b.length ?_ ?_ ?_
          · refine ⟨.ns, [], ?_⟩
            simp +contextual (disch := omega) [Nat.add_assoc, Int.add_assoc, if_pos, if_neg, -Int.not_lt, -Int.not_le, -Nat.not_lt, -Nat.not_le, -List.length_flatMap]
            exact Xc.nil
          · rintro i e m x hi ⟨B, gs, g3, g4, g9, g36, g37, g38, y0, y1, hx, hX⟩
            have hoff : b[i].off < 1000 := by
              rw [List.any_eq_false] at c4
              have := c4 b[i] (List.getElem_mem hi)
              simpa [greatA] using this
            have hok2 : -9223372036854775808 ≤ b[i].off := by
              obtain ⟨r1, r2, r3, r4⟩ := right_ok c2
              have h := r4 ⟨b, a⟩ (List.mem_singleton.2 rfl)
              simp only [okC, Bool.and_eq_true, List.all_eq_true] at h
              have := h.2 b[i] (by simp)
              simp [okA] at this
              omega
            simp +contextual (disch := omega) [Nat.add_assoc, Int.add_assoc, if_pos, if_neg, -Int.not_lt, -Int.not_le, -Nat.not_lt, -Nat.not_le, -List.length_flatMap, store_Follows.b1, g3, g4, g9, g36, g37, g38, y0, y1, hi, -apV_ns]
            have hbl : (againstL a (b.take i)).length ≤ 60 := by rw [against_len, List.length_take]; omega
            have ht : againstL a (b.take (i + 1)) = againstL a (b.take i) ++ [⟨[a], ⟨b[i].var, b[i].off + 1⟩⟩] := by
              unfold againstL
              rw [List.take_succ_eq_append_getElem hi, List.map_append]; rfl
            refine hX.ap (lo := 20) (dl := [⟨[a], ⟨b[i].var, b[i].off + 1⟩⟩]) (gs := [.ms (x + 7) 0 1 2]) (fun j h1 h2 => by rw [Sto.sne _ _ _ _ (by omega), Sto.sne _ _ _ _ (by omega), Sto.sne _ _ _ _ (by omega), Sto.sne _ _ _ _ (by omega)]) (by omega) (by omega) (by omega) rfl rfl ?_ (by simp; omega) ?_
            · refine ⟨(Rl.Bf (Bf.mem (f := cA) (k := 2) (lo := x + 7) (x := x + 8) (l := [a]) (cs := cA a) (by simp +contextual (disch := omega) [Nat.add_assoc, Int.add_assoc, if_pos, if_neg, -Int.not_lt, -Int.not_le, -Nat.not_lt, -Nat.not_le, -List.length_flatMap]) (by simp) rfl (by omega) (by omega))).mono (fun j hj => ⟨by omega, by omega, by omega⟩), trivial⟩
            · intro B' ws m2 p1 p2 p3 p4
              have q0 : m2 0 = some (.cells (cS s) false) := by rw [p3 0 (by omega)]; simp +contextual (disch := omega) [Nat.add_assoc, Int.add_assoc, if_pos, if_neg, -Int.not_lt, -Int.not_le, -Nat.not_lt, -Nat.not_le, -List.length_flatMap, y0]
              have q1 : m2 1 = some (.cells (cA a) false) := by rw [p3 1 (by omega)]; simp +contextual (disch := omega) [Nat.add_assoc, Int.add_assoc, if_pos, if_neg, -Int.not_lt, -Int.not_le, -Nat.not_lt, -Nat.not_le, -List.length_flatMap, y1]
              simp +contextual (disch := omega) [Nat.add_assoc, Int.add_assoc, if_pos, if_neg, -Int.not_lt, -Int.not_le, -Nat.not_lt, -Nat.not_le, -List.length_flatMap, p1, g3, g4, g36, g37, g38, q0, q1, p2.rc.stor, p2.rc.cells]
              rw [ht]
              exact ⟨by omega, _, p2.up (Nat.le_refl _) (by omega) (fun _ _ _ => rfl)⟩
          · rintro e m x ⟨B, gs, g3, g4, g9, g36, g37, g38, y0, y1, hx, hX⟩
            rw [List.take_length] at hX
            simp +contextual (disch := omega) [Nat.add_assoc, Int.add_assoc, if_pos, if_neg, -Int.not_lt, -Int.not_le, -Nat.not_lt, -Nat.not_le, -List.length_flatMap, store_Follows.b1, g3, g4, g9, g36, g37, g38, y0, y1]
            rw [CallX_op (by rfl)]
            refine openg_w rfl rfl (.inl rfl) ?_
            have hfo : ctx.frz store_own.n = false := rfl
            have hfz : ctx.frz store_keeper_put.n = false := rfl
            rw [hfo]
            refine store_own.w (A := fun _ => False) (Rc.sV _ _ s.cl) (Rl.sV _ _ s.md) (fun j h => h.elim) z1 z2 z3 ?_
            intro C1 C2 hs' m2 x2 hx2 hm2 hX2 hB2 _
            simp +contextual (disch := omega) [Nat.add_assoc, Int.add_assoc, if_pos, if_neg, -Int.not_lt, -Int.not_le, -Nat.not_lt, -Nat.not_le, -List.length_flatMap, g9]
            rw [CallX_op (by rfl)]
            refine openg_w rfl rfl (.inl rfl) ?_
            have hRc : rightC s.vars s.cl = true := by
              unfold rightS at c1
              simp only [Bool.and_eq_true] at c1
              exact c1.1.1
            have hal := against_len a b
            have hRa := right_app hRc (against_right c2 c4 (by omega)) (by omega)
            have hag : Ag (fun j => 20 ≤ j ∧ j < x) m ((m2.set x2 (some (.cells [.i .i64 0, .ns, .ns] false))).set x2 (some (.cells [.i .i64 s.vars, C1, C2] false))) := .eq fun j hj => by
              rw [Sto.sne _ _ _ _ (by omega), Sto.sne _ _ _ _ (by omega), hm2 j (by omega)]
            refine store_keeper_put.w (A := fun j => x + 2 ≤ j ∧ j < x2) (G := fun j => 20 ≤ j ∧ j < x) (fun j h => by omega) (fun j h => by omega) ⟨by omega, by omega, by omega⟩ (fun j h1 h2 => by omega) (by rw [Sto.seq]) (hX2.xa.up (fun j h => ?_) (fun j h => h)) (hX.rc.sl _ hag) hX.rc.len (hX.rc.fr.up hag (fun j h => h)) z1 (by omega) ?_ hRa ?_
            · rw [Sto.sne _ _ _ _ (by omega), Sto.sne _ _ _ _ (by omega)]
            · intro c hc
              rcases List.mem_append.1 hc with hc | hc
              · exact hok.2 c hc
              · rw [against_frm c hc]; omega
            · intro B' m3 x3 h3x h3m h3r h3y
              rw [hfz]
              simp +contextual (disch := omega) [Nat.add_assoc, Int.add_assoc, if_pos, if_neg, -Int.not_lt, -Int.not_le, -Nat.not_lt, -Nat.not_le, -List.length_flatMap]
end Pi


set_option linter.unusedSimpArgs false
set_option linter.unusedVariables false
namespace Pi
set_option maxHeartbeats 1000000 in
theorem ref11_Follows.a (s : St) (a : A) (b : List A) (hs : s.Few) (hb : b.length ≤ 1000000) : Ans ctx ref11_Follows.n [.ag (cS s), .ag (cA a), sV cA b] (followsV s a b) := by
  obtain ⟨vs, hvs⟩ : ∃ vs, vs = [V.ag (cS s), V.ag (cA a), sV cA b] := ⟨_, rfl⟩
  rw [← hvs]
  refine ans ref11_Follows.f ?_
  have hR := ref11_Right.a s hs.1
  obtain ⟨hok, z1, z2, z3⟩ := hs
  have hH : Ans ctx ref08_Right.n [.i .i64 s.vars, .sl (sV cA b :: cA a) 1] (.b (rightC s.vars [⟨b, a⟩])) := ref08_Right.a s.vars [⟨b, a⟩] (by simp) (by simp; omega)
  obtain ⟨u, hu⟩ : ∃ u, u = followsV s a b := ⟨_, rfl⟩
  have hu' := hu
  unfold followsV at hu'
  rw [← hu]
  cases c1 : rightS s with
  | false =>
    rw [c1] at hR
    rw [c1, if_pos (.inl rfl)] at hu'
    simp +contextual (disch := omega) [Nat.add_assoc, Int.add_assoc, if_pos, if_neg, -Int.not_lt, -Int.not_le, -Nat.not_lt, -Nat.not_le, -List.length_flatMap, hvs, ref11_Follows.c, ansK hR, hu']
  | true =>
    rw [c1] at hR
    cases c2 : rightC s.vars [⟨b, a⟩] with
    | false =>
      rw [c2] at hH
      rw [c2, if_pos (.inr rfl)] at hu'
      simp +contextual (disch := omega) [Nat.add_assoc, Int.add_assoc, if_pos, if_neg, -Int.not_lt, -Int.not_le, -Nat.not_lt, -Nat.not_le, -List.length_flatMap, hvs, ref11_Follows.c, ansK hR, ansK hH, hu']
    | true =>
      rw [c2] at hH
      rw [c1, c2, if_neg (by simp)] at hu'
      by_cases c3 : 60 < s.cl.length + b.length
      · rw [if_pos (.inl c3)] at hu'
        simp +contextual (disch := omega) [Nat.add_assoc, Int.add_assoc, if_pos, if_neg, -Int.not_lt, -Int.not_le, -Nat.not_lt, -Nat.not_le, -List.length_flatMap, hvs, ref11_Follows.c, ansK hR, ansK hH, c3, hu']
      · have hu1 : b.any greatA = true → u = .tu [.b false, .i .i64 2] := fun h => by rw [if_pos (.inr h)] at hu'; exact hu'
        have hu2 : b.any greatA = false → u = .tu [.b (!(solveC s.vars.toNat (s.cl ++ againstL a b)).2.1), .i .i64 0] := fun h => by rw [if_neg (by rw [h]; simp; omega)] at hu'; exact hu'
        clear hu' hu
        simp +contextual (disch := omega) [Nat.add_assoc, Int.add_assoc, if_pos, if_neg, -Int.not_lt, -Int.not_le, -Nat.not_lt, -Nat.not_le, -List.length_flatMap, hvs, ref11_Follows.c, ansK hR, ansK hH, c3]
        rw [CallX_op (by rfl)]
        refine openg_w rfl rfl (.inl rfl) ?_
        have hfo : ctx.frz ref11_own.n = false := rfl
        rw [hfo]
        show Pi.w ctx (envOf [.ag [.i .i64 s.vars, sV cC s.cl, sV cI s.md]]) _ _ _ _ _ _ _
        refine ref11_own.w (s := s) (V1 := sV cC s.cl) (V2 := sV cI s.md) (fs := s.cl.map fun c => sV cA c.frm) (A := fun _ => False) (.inl ⟨rfl, rfl⟩) (Fr.sv (fun _ => False) _ s.cl) (Rl.sV (fun _ => False) _ s.md) (fun j h => h.elim) (fun j h => by cases h) z1 z2 z3 ?_
        intro C1 C2 hs' m2 x2 hx2 hm2 hX2 hB2 _
        have k0 : m2 0 = some (.cells (cS s) false) := by rw [hm2 0 (by omega)]; simp +contextual (disch := omega) [Nat.add_assoc, Int.add_assoc, if_pos, if_neg, -Int.not_lt, -Int.not_le, -Nat.not_lt, -Nat.not_le, -List.length_flatMap]
        have k1 : m2 1 = some (.cells (cA a) false) := by rw [hm2 1 (by omega)]; simp +contextual (disch := omega) [Nat.add_assoc, Int.add_assoc, if_pos, if_neg, -Int.not_lt, -Int.not_le, -Nat.not_lt, -Nat.not_le, -List.length_flatMap]
        simp +contextual (disch := omega) [Nat.add_assoc, Int.add_assoc, if_pos, if_neg, -Int.not_lt, -Int.not_le, -Nat.not_lt, -Nat.not_le, -List.length_flatMap]
        clear hm2
        refine for_w (fun i e m x => ∃ B gs, e 3 = .p 0 0 ∧ e 4 = .p 1 0 ∧ e 9 = B ∧ e 2 = sV cA b ∧ e 10 = .i .i64 i ∧ m 0 = some (.cells (cS s) false) ∧ m 1 = some (.cells (cA a) false) ∧ 29 ≤ x ∧ (b.take i).any greatA = false ∧ Xc m B (s.cl ++ againstL a (b.take i)) gs 26 x) b.length ?_ ?_ ?_
        · refine ⟨C1, hs', ?_⟩
          simp +contextual (disch := omega) [Nat.add_assoc, Int.add_assoc, if_pos, if_neg, -Int.not_lt, -Int.not_le, -Nat.not_lt, -Nat.not_le, -List.length_flatMap, k0, k1, againstL]
          exact ⟨by omega, hX2.up (Nat.le_refl _) (by omega) (fun _ _ _ => rfl)⟩
        · rintro i e m x hi ⟨B, gs, g3, g4, g9, g2, g10, y0, y1, hx, hg, hX⟩
          have hok2 : -9223372036854775808 ≤ b[i].off := by
            obtain ⟨r1, r2, r3, r4⟩ := right_ok c2
            have h := r4 ⟨b, a⟩ (List.mem_singleton.2 rfl)
            simp only [okC, Bool.and_eq_true, List.all_eq_true] at h
            have := h.2 b[i] (by simp)
            simp [okA] at this
            omega
          by_cases hoff : 1000 ≤ b[i].off
          · have hy := hu1 (List.any_eq_true.2 ⟨b[i], List.getElem_mem hi, by simp [greatA, hoff]⟩)
            simp +contextual (disch := omega) [Nat.add_assoc, Int.add_assoc, if_pos, if_neg, -Int.not_lt, -Int.not_le, -Nat.not_lt, -Nat.not_le, -List.length_flatMap, ref11_Follows.b1, g3, g4, g9, g2, g10, y0, y1, hi, hoff, hy]
          · have hoff' : b[i].off < 1000 := by omega
            simp +contextual (disch := omega) [Nat.add_assoc, Int.add_assoc, if_pos, if_neg, -Int.not_lt, -Int.not_le, -Nat.not_lt, -Nat.not_le, -List.length_flatMap, ref11_Follows.b1, g3, g4, g9, g2, g10, y0, y1, hi, hoff, -apV_ns]
            have hal := against_len a (b.take i)
            have htl : (b.take i).length = i := by rw [List.length_take]; omega
            have hbl : (s.cl ++ againstL a (b.take i)).length ≤ 60 := by rw [List.length_append, hal, htl]; omega
            have ht : againstL a (b.take (i + 1)) = againstL a (b.take i) ++ [⟨[a], ⟨b[i].var, b[i].off + 1⟩⟩] := by
              unfold againstL
              rw [List.take_succ_eq_append_getElem hi, List.map_append]; rfl
            have hg' : ∀ x ∈ b.take (i + 1), greatA x = false := by
              rw [List.take_succ_eq_append_getElem hi]
              intro y hy
              rcases List.mem_append.1 hy with hy | hy
              · rw [List.any_eq_false] at hg; simpa using hg y hy
              · rw [List.mem_singleton.1 hy]; simp [greatA]; omega
            refine hX.ap (lo := 26) (dl := [⟨[a], ⟨b[i].var, b[i].off + 1⟩⟩]) (gs := [.ms (x + 12) 0 1 2]) (fun j h1 h2 => by rw [Sto.sne _ _ _ _ (by omega), Sto.sne _ _ _ _ (by omega)]) (by omega) (by omega) (by omega) rfl rfl ?_ (by simp; omega) ?_
            · refine ⟨(Rl.Bf (Bf.mem (f := cA) (k := 2) (lo := x + 12) (x := x + 13) (l := [a]) (cs := cA a) (by simp +contextual (disch := omega) [Nat.add_assoc, Int.add_assoc, if_pos, if_neg, -Int.not_lt, -Int.not_le, -Nat.not_lt, -Nat.not_le, -List.length_flatMap]) (by simp) rfl (by omega) (by omega))).mono (fun j hj => ⟨by omega, by omega, by omega⟩), trivial⟩
            · intro B' ws m2 p1 p2 p3 p4
              have q0 : m2 0 = some (.cells (cS s) false) := by rw [p3 0 (by omega)]; simp +contextual (disch := omega) [Nat.add_assoc, Int.add_assoc, if_pos, if_neg, -Int.not_lt, -Int.not_le, -Nat.not_lt, -Nat.not_le, -List.length_flatMap, y0]
              have q1 : m2 1 = some (.cells (cA a) false) := by rw [p3 1 (by omega)]; simp +contextual (disch := omega) [Nat.add_assoc, Int.add_assoc, if_pos, if_neg, -Int.not_lt, -Int.not_le, -Nat.not_lt, -Nat.not_le, -List.length_flatMap, y1]
              simp +contextual (disch := omega) [Nat.add_assoc, Int.add_assoc, if_pos, if_neg, -Int.not_lt, -Int.not_le, -Nat.not_lt, -Nat.not_le, -List.length_flatMap, p1, g3, g4, g2, g10, q0, q1, p2.rc.stor, p2.rc.cells, hg']
              refine ⟨gs ++ [.ms (x + 12) 0 1 2], ?_⟩
              rw [ht, ← List.append_assoc]
              exact p2.up (Nat.le_refl _) (by omega) (fun _ _ _ => rfl)
        · rintro e m x ⟨B, gs, g3, g4, g9, g2, g10, y0, y1, hx, hg, hX⟩
          rw [List.take_length] at hg hX
          have hal := against_len a b
          have hRc : rightC s.vars s.cl = true := by
            unfold rightS at c1
            simp only [Bool.and_eq_true] at c1
            exact c1.1.1
          have hRa := right_app hRc (against_right c2 hg (by omega)) (by omega)
          have hS := ref09_Solve.a s.vars (s.cl ++ againstL a b) (by simp; omega) (fun c hc => by
            rcases List.mem_append.1 hc with hc | hc
            · exact hok.2 c hc
            · rw [against_frm c hc]; omega)
          rw [solveV, if_pos hRa] at hS
          have hy := hu2 hg
          obtain ⟨ids, hz, hid⟩ := hX.rc.fz24
          simp +contextual (disch := omega) [Nat.add_assoc, Int.add_assoc, if_pos, if_neg, -Int.not_lt, -Int.not_le, -Nat.not_lt, -Nat.not_le, -List.length_flatMap, ref11_Follows.b1, g3, g4, g9, g2, g10, y0, y1, hz, ansK hS, hy]
end Pi


set_option linter.unusedSimpArgs false
set_option linter.unusedVariables false
namespace Pi
end Pi


set_option linter.unusedSimpArgs false
set_option linter.unusedVariables false
namespace Pi
end Pi

