/- Contracts: stores (layer 11): what follows. -/
import Derived.Test.YtfdkpnckflmcaaaC11e
set_option linter.unusedSimpArgs false
set_option linter.unusedVariables false
namespace Pi
theorem slices_IndexFunc_Atom.a (l : List A) (g : Nat) (caps : List V) (p : A → Bool) (hg : (ctx.opn g || ctx.frz g) = false) (hpr : ctx.prim g = none) (hc : ∀ D, frzL D caps = some (caps, [])) (h : ∀ k ∈ l, Ans ctx g ((.ag (cA k)) :: caps) (.b (p k))) (hl : l.length ≤ 9223372036854775807) :
    Ans ctx slices_IndexFunc_Atom.n [sV cA l, .fn (.func g) [] caps] (.i .i64 (idxS p l)) := by
  refine ans slices_IndexFunc_Atom.f ?_
  simp +contextual (disch := omega) [Nat.add_assoc, Int.add_assoc, if_pos, if_neg, -Int.not_lt, -Int.not_le, -Nat.not_lt, -Nat.not_le, -List.length_flatMap, slices_IndexFunc_Atom.c]
  refine for_w (fun i e m x => e 0 = sV cA l ∧ e 1 = .fn (.func g) [] caps ∧ e 7 = .i .i64 l.length ∧ e 8 = .i .i64 i ∧ (l.take i).all (fun a => !p a) = true) l.length ?_ ?_ ?_
  · simp +contextual (disch := omega) [Nat.add_assoc, Int.add_assoc, if_pos, if_neg, -Int.not_lt, -Int.not_le, -Nat.not_lt, -Nat.not_le, -List.length_flatMap]
  · rintro i e m x hi ⟨g1, g2, g3, g4, g5⟩
    have hk := h l[i] (List.getElem_mem hi)
    obtain ⟨q1, q2⟩ := idx_take hi g5
    cases hp : p l[i] with
    | true =>
      rw [hp] at hk
      simp +contextual (disch := omega) [Nat.add_assoc, Int.add_assoc, if_pos, if_neg, -Int.not_lt, -Int.not_le, -Nat.not_lt, -Nat.not_le, -List.length_flatMap, slices_IndexFunc_Atom.b1, g1, g2, g3, g4, hi, CallX_cl (C := ctx) (g := g) hpr (orF hg).1 (orF hg).2, hc, ansK hk, q1 hp]
    | false =>
      rw [hp] at hk
      simp +contextual (disch := omega) [Nat.add_assoc, Int.add_assoc, if_pos, if_neg, -Int.not_lt, -Int.not_le, -Nat.not_lt, -Nat.not_le, -List.length_flatMap, slices_IndexFunc_Atom.b1, g1, g2, g3, g4, hi, CallX_cl (C := ctx) (g := g) hpr (orF hg).1 (orF hg).2, hc, ansK hk, q2 hp]
  · rintro e m x ⟨g1, g2, g3, g4, g5⟩
    rw [List.take_length] at g5
    simp +contextual (disch := omega) [Nat.add_assoc, Int.add_assoc, if_pos, if_neg, -Int.not_lt, -Int.not_le, -Nat.not_lt, -Nat.not_le, -List.length_flatMap, slices_IndexFunc_Atom.b1, g1, g2, g3, g4, idx_all g5]
theorem slices_ContainsFunc_Atom.a (l : List A) (g : Nat) (caps : List V) (p : A → Bool) (hg : (ctx.opn g || ctx.frz g) = false) (hpr : ctx.prim g = none) (hc : ∀ D, frzL D caps = some (caps, [])) (h : ∀ k ∈ l, Ans ctx g ((.ag (cA k)) :: caps) (.b (p k))) (hl : l.length ≤ 9223372036854775807) :
    Ans ctx slices_ContainsFunc_Atom.n [sV cA l, .fn (.func g) [] caps] (.b (l.any p)) := by
  refine ans slices_ContainsFunc_Atom.f ?_
  simp +contextual (disch := omega) [Nat.add_assoc, Int.add_assoc, if_pos, if_neg, -Int.not_lt, -Int.not_le, -Nat.not_lt, -Nat.not_le, -List.length_flatMap, slices_ContainsFunc_Atom.c, hc, ansK (slices_IndexFunc_Atom.a l g caps p hg hpr hc h hl), idx_ge]
/-- What is not so: a is more than each of b. -/
def againstL (a : A) (b : List A) : List C := b.map fun x => ⟨[a], ⟨x.var, x.off + 1⟩⟩
def greatA (x : A) : Bool := decide (1000 ≤ x.off)
def followsV (s : St) (a : A) (b : List A) : V :=
  if rightS s = false ∨ rightC s.vars [⟨b, a⟩] = false then .tu [.b false, .i .i64 1]
  else if 60 < s.cl.length + b.length ∨ b.any greatA = true then .tu [.b false, .i .i64 2]
  else .tu [.b (!(solveC s.vars.toNat (s.cl ++ againstL a b)).2.1), .i .i64 0]
theorem against_len (a : A) (b : List A) : (againstL a b).length = b.length := by simp [againstL]
theorem against_frm {a : A} {b : List A} : ∀ c ∈ againstL a b, c.frm.length = 1 := by
  intro c hc
  obtain ⟨x, _, rfl⟩ := List.mem_map.1 hc
  rfl
theorem against_right {vars : Int} {a : A} {b : List A} (h : rightC vars [⟨b, a⟩] = true) (hb : b.any greatA = false) (hl : b.length ≤ 60) : rightC vars (againstL a b) = true := by
  obtain ⟨r1, r2, r3, r4⟩ := right_ok h
  have hc := r4 ⟨b, a⟩ (List.mem_singleton.2 rfl)
  simp only [okC, Bool.and_eq_true, List.all_eq_true] at hc
  simp [rightC, against_len]
  refine ⟨by omega, fun c hcc => ?_⟩
  obtain ⟨x, hx, rfl⟩ := List.mem_map.1 hcc
  have h1 := hc.2 x (by simp [hx])
  have h2 := hc.2 a (by simp)
  have h3 : greatA x = false := by
    rw [List.any_eq_false] at hb
    simpa using hb x hx
  unfold greatA at h3
  simp [okC, manyC, okA] at h1 h2 h3 ⊢
  omega
theorem store_Follows_1.a (x : A) : Ans ctx store_Follows_1.n [.ag (cA x)] (.b (greatA x)) := by
  refine ans store_Follows_1.f ?_
  unfold greatA
  simp +contextual (disch := omega) [Nat.add_assoc, Int.add_assoc, if_pos, if_neg, -Int.not_lt, -Int.not_le, -Nat.not_lt, -Nat.not_le, -List.length_flatMap, store_Follows_1.c]
set_option maxHeartbeats 1000000 in
theorem store_Follows.a (s : St) (a : A) (b : List A) (hs : s.Few) (hb : b.length ≤ 1000000) : Ans ctx store_Follows.n [.ag (cS s), .ag (cA a), sV cA b] (followsV s a b) := by
  refine ans store_Follows.f ?_
  have hR := store_Right.a s hs.1
  obtain ⟨hok, z1, z2, z3⟩ := hs
  have hH : Ans ctx horn_Right.n [.i .i64 s.vars, .sl (sV cA b :: cA a) 1] (.b (rightC s.vars [⟨b, a⟩])) := horn_Right.a s.vars [⟨b, a⟩] (by simp) (by simp; omega)
  have hC := slices_ContainsFunc_Atom.a b store_Follows_1.n [] greatA rfl rfl (by simp) (fun k _ => store_Follows_1.a k) (by omega)
  unfold followsV
  cases c1 : rightS s with
  | false =>
    rw [c1] at hR
    simp +contextual (disch := omega) [Nat.add_assoc, Int.add_assoc, if_pos, if_neg, -Int.not_lt, -Int.not_le, -Nat.not_lt, -Nat.not_le, -List.length_flatMap, store_Follows.c, ansK hR]
  | true =>
    rw [c1] at hR
    cases c2 : rightC s.vars [⟨b, a⟩] with
    | false =>
      rw [c2] at hH
      simp +contextual (disch := omega) [Nat.add_assoc, Int.add_assoc, if_pos, if_neg, -Int.not_lt, -Int.not_le, -Nat.not_lt, -Nat.not_le, -List.length_flatMap, store_Follows.c, ansK hR, ansK hH]
    | true =>
      rw [c2] at hH
      by_cases c3 : 60 < s.cl.length + b.length
      · simp +contextual (disch := omega) [Nat.add_assoc, Int.add_assoc, if_pos, if_neg, -Int.not_lt, -Int.not_le, -Nat.not_lt, -Nat.not_le, -List.length_flatMap, store_Follows.c, ansK hR, ansK hH, c3]
      · cases c4 : b.any greatA with
        | true =>
          rw [c4] at hC
          simp +contextual (disch := omega) [Nat.add_assoc, Int.add_assoc, if_pos, if_neg, -Int.not_lt, -Int.not_le, -Nat.not_lt, -Nat.not_le, -List.length_flatMap, store_Follows.c, ansK hR, ansK hH, c3, ansK hC]
        | false =>
          rw [c4] at hC
          simp +contextual (disch := omega) [Nat.add_assoc, Int.add_assoc, if_pos, if_neg, -Int.not_lt, -Int.not_le, -Nat.not_lt, -Nat.not_le, -List.length_flatMap, store_Follows.c, ansK hR, ansK hH, c3, ansK hC]
          refine for_w (fun i e m x => ∃ B gs, e 3 = .p 0 0 ∧ e 4 = .p 1 0 ∧ e 9 = B ∧ e 36 = sV cA b ∧ e 37 = .i .i64 b.length ∧ e 38 = .i .i64 i ∧ m 0 = some (.cells (cS s) false) ∧ m 1 = some (.cells (cA a) false) ∧ 31 ≤ x ∧ Xc m B (againstL a (b.take i)) gs 20 x) b.length ?_ ?_ ?_
          · refine ⟨.ns, [], ?_⟩
            simp +contextual (disch := omega) [Nat.add_assoc, Int.add_assoc, if_pos, if_neg, -Int.not_lt, -Int.not_le, -Nat.not_lt, -Nat.not_le, -List.length_flatMap]
            exact Xc.nil
          · rintro i e m x hi ⟨B, gs, g3, g4, g9, g36, g37, g38, y0, y1, hx, hX⟩
            have hoff : b[i].off < 1000 := by
              rw [List.any_eq_false] at c4
              have := c4 b[i] (List.getElem_mem hi)
              simpa [greatA] using this
            have hok2 : -9223372036854775808 ≤ b[i].off := by
              obtain ⟨r1, r2, r3, r4⟩ := right_ok c2
              have h := r4 ⟨b, a⟩ (List.mem_singleton.2 rfl)
              simp only [okC, Bool.and_eq_true, List.all_eq_true] at h
              have := h.2 b[i] (by simp)
              simp [okA] at this
              omega
            simp +contextual (disch := omega) [Nat.add_assoc, Int.add_assoc, if_pos, if_neg, -Int.not_lt, -Int.not_le, -Nat.not_lt, -Nat.not_le, -List.length_flatMap, store_Follows.b1, g3, g4, g9, g36, g37, g38, y0, y1, hi, -apV_ns]
            have hbl : (againstL a (b.take i)).length ≤ 60 := by rw [against_len, List.length_take]; omega
            have ht : againstL a (b.take (i + 1)) = againstL a (b.take i) ++ [⟨[a], ⟨b[i].var, b[i].off + 1⟩⟩] := by
              unfold againstL
              rw [List.take_succ_eq_append_getElem hi, List.map_append]; rfl
            refine hX.ap (lo := 20) (dl := [⟨[a], ⟨b[i].var, b[i].off + 1⟩⟩]) (gs := [.ms (x + 7) 0 1 2]) (fun j h1 h2 => by rw [Sto.sne _ _ _ _ (by omega), Sto.sne _ _ _ _ (by omega), Sto.sne _ _ _ _ (by omega), Sto.sne _ _ _ _ (by omega)]) (by omega) (by omega) (by omega) rfl rfl ?_ (by simp; omega) ?_
            · refine ⟨(Rl.Bf (Bf.mem (f := cA) (k := 2) (lo := x + 7) (x := x + 8) (l := [a]) (cs := cA a) (by simp +contextual (disch := omega) [Nat.add_assoc, Int.add_assoc, if_pos, if_neg, -Int.not_lt, -Int.not_le, -Nat.not_lt, -Nat.not_le, -List.length_flatMap]) (by simp) rfl (by omega) (by omega))).mono (fun j hj => ⟨by omega, by omega, by omega⟩), trivial⟩
            · intro B' ws m2 p1 p2 p3 p4
              have q0 : m2 0 = some (.cells (cS s) false) := by rw [p3 0 (by omega)]; simp +contextual (disch := omega) [Nat.add_assoc, Int.add_assoc, if_pos, if_neg, -Int.not_lt, -Int.not_le, -Nat.not_lt, -Nat.not_le, -List.length_flatMap, y0]
              have q1 : m2 1 = some (.cells (cA a) false) := by rw [p3 1 (by omega)]; simp +contextual (disch := omega) [Nat.add_assoc, Int.add_assoc, if_pos, if_neg, -Int.not_lt, -Int.not_le, -Nat.not_lt, -Nat.not_le, -List.length_flatMap, y1]
              simp +contextual (disch := omega) [Nat.add_assoc, Int.add_assoc, if_pos, if_neg, -Int.not_lt, -Int.not_le, -Nat.not_lt, -Nat.not_le, -List.length_flatMap, p1, g3, g4, g36, g37, g38, q0, q1, p2.rc.stor, p2.rc.cells]
              rw [ht]
              exact ⟨by omega, _, p2.up (Nat.le_refl _) (by omega) (fun _ _ _ => rfl)⟩
          · rintro e m x ⟨B, gs, g3, g4, g9, g36, g37, g38, y0, y1, hx, hX⟩
            rw [List.take_length] at hX
            simp +contextual (disch := omega) [Nat.add_assoc, Int.add_assoc, if_pos, if_neg, -Int.not_lt, -Int.not_le, -Nat.not_lt, -Nat.not_le, -List.length_flatMap, store_Follows.b1, g3, g4, g9, g36, g37, g38, y0, y1]
            rw [CallX_op (by rfl)]
            refine openg_w rfl rfl (.inl rfl) ?_
            have hfo : ctx.frz store_own.n = false := rfl
            have hfz : ctx.frz store_keeper_put.n = false := rfl
            rw [hfo]
            refine store_own.w (A := fun _ => False) (Rc.sV _ _ s.cl) (Rl.sV _ _ s.md) (fun j h => h.elim) z1 z2 z3 ?_
            intro C1 C2 hs' m2 x2 hx2 hm2 hX2 hB2 _
            simp +contextual (disch := omega) [Nat.add_assoc, Int.add_assoc, if_pos, if_neg, -Int.not_lt, -Int.not_le, -Nat.not_lt, -Nat.not_le, -List.length_flatMap, g9]
            rw [CallX_op (by rfl)]
            refine openg_w rfl rfl (.inl rfl) ?_
            have hRc : rightC s.vars s.cl = true := by
              unfold rightS at c1
              simp only [Bool.and_eq_true] at c1
              exact c1.1.1
            have hal := against_len a b
            have hRa := right_app hRc (against_right c2 c4 (by omega)) (by omega)
            have hag : Ag (fun j => 20 ≤ j ∧ j < x) m ((m2.set x2 (some (.cells [.i .i64 0, .ns, .ns] false))).set x2 (some (.cells [.i .i64 s.vars, C1, C2] false))) := .eq fun j hj => by
              rw [Sto.sne _ _ _ _ (by omega), Sto.sne _ _ _ _ (by omega), hm2 j (by omega)]
            refine store_keeper_put.w (A := fun j => x + 2 ≤ j ∧ j < x2) (G := fun j => 20 ≤ j ∧ j < x) (fun j h => by omega) (fun j h => by omega) ⟨by omega, by omega, by omega⟩ (fun j h1 h2 => by omega) (by rw [Sto.seq]) (hX2.xa.up (fun j h => ?_) (fun j h => h)) (hX.rc.sl _ hag) hX.rc.len (hX.rc.fr.up hag (fun j h => h)) z1 (by omega) ?_ hRa ?_
            · rw [Sto.sne _ _ _ _ (by omega), Sto.sne _ _ _ _ (by omega)]
            · intro c hc
              rcases List.mem_append.1 hc with hc | hc
              · exact hok.2 c hc
              · rw [against_frm c hc]; omega
            · intro B' m3 x3 h3x h3m h3r h3y
              rw [hfz]
              simp +contextual (disch := omega) [Nat.add_assoc, Int.add_assoc, if_pos, if_neg, -Int.not_lt, -Int.not_le, -Nat.not_lt, -Nat.not_le, -List.length_flatMap]
end Pi
