/- Contracts: flats (layer 6): a flat that says but a number. -/
import Derived.Test.YtjaoacpemboakaaC06a
import Derived.Test.YtjaoacpemboakaaCRl
set_option linter.unusedSimpArgs false
set_option linter.unusedVariables false
namespace Pi
theorem math_bits_Mul64.a (n : Nat) (hn : n ≤ 5) : Ans ctx math_bits_Mul64.n [.i .u64 1, .i .u64 n] (.tu [.i .u64 0, .i .u64 n]) := by
  have : n = 0 ∨ n = 1 ∨ n = 2 ∨ n = 3 ∨ n = 4 ∨ n = 5 := by omega
  rcases this with rfl | rfl | rfl | rfl | rfl | rfl <;> exact ans_told (n := 200) (by kernel_rfl)
theorem math_bits_Mul.a (n : Nat) (hn : n ≤ 5) : Ans ctx math_bits_Mul.n [.i .u64 1, .i .u64 n] (.tu [.i .u64 0, .i .u64 n]) := by
  refine ans math_bits_Mul.f ?_
  simp +contextual (disch := omega) [Nat.add_assoc, Int.add_assoc, if_pos, if_neg, -Int.not_lt, -Int.not_le, -Nat.not_lt, -Nat.not_le, -List.length_flatMap, math_bits_Mul.c, ansK (math_bits_Mul64.a n hn)]
set_option maxHeartbeats 1000000 in
theorem slices_Repeat_int.w {m : Sto} {x a : Nat} {K : CR → Sto → Nat → Prop} (n : Nat) (hn : n ≤ 5) (ha : m a = some (.cells [.i .i64 (-1)] false)) (hax : a < x)
    (hK : ∀ B m' x', x + 22 ≤ x' → (∀ j, j ≠ x + 21 → m' j = m j) → (n = 0 ∧ B = .ns ∧ m' = m ∨ n ≠ 0 ∧ B = .ms (x + 21) 0 n 1 ∧ m' (x + 21) = some (.cells ((List.replicate n (-1)).flatMap cI) false)) → K (.ret B) m' x') :
    w ctx (envOf [.ms a 0 1 1, .i .i64 n]) m x [] none none (RetG ctx slices_Repeat_int.c.rs K) slices_Repeat_int.c.code := by
  have hM := math_bits_Mul.a n hn
  simp +contextual (disch := omega) [Nat.add_assoc, Int.add_assoc, if_pos, if_neg, -Int.not_lt, -Int.not_le, -Nat.not_lt, -Nat.not_le, -List.length_flatMap, slices_Repeat_int.c, ansK hM, ha]
  have : n = 0 ∨ n = 1 ∨ n = 2 ∨ n = 3 ∨ n = 4 ∨ n = 5 := by omega
  rcases this with rfl | rfl | rfl | rfl | rfl | rfl
  all_goals
    simp +contextual (disch := omega) [Nat.add_assoc, Int.add_assoc, if_pos, if_neg, -Int.not_lt, -Int.not_le, -Nat.not_lt, -Nat.not_le, -List.length_flatMap, ha]
    repeat (refine un_w ?_; simp +contextual (disch := omega) [Nat.add_assoc, Int.add_assoc, if_pos, if_neg, -Int.not_lt, -Int.not_le, -Nat.not_lt, -Nat.not_le, -List.length_flatMap, slices_Repeat_int.b1])
  · exact hK _ _ _ (by omega) (fun j hj => rfl) (.inl ⟨rfl, rfl, rfl⟩)
  all_goals exact hK _ _ _ (by omega) (fun j hj => by repeat rw [Sto.sne _ _ _ _ hj]) (.inr ⟨by omega, rfl, by rw [Sto.seq]; rfl⟩)
/-- A list of numbers in memory of its own, all of it. -/
def Ex (m : Sto) (B : V) (l : List Int) (lo x : Nat) : Prop := (B = .ns ∧ l = []) ∨ ∃ a, B = .ms a 0 l.length 1 ∧ m a = some (.cells (l.flatMap cI) false) ∧ lo ≤ a ∧ a < x
theorem Ex.bf {m : Sto} {B : V} {l : List Int} {lo x : Nat} (h : Ex m B l lo x) : Bf m B cI 1 l lo x := by
  rcases h with ⟨rfl, rfl⟩ | ⟨a, rfl, h1, h2, h3⟩
  · exact Bf.nil
  · exact .mem h1 rfl rfl h2 h3
theorem Ex.up {m m' : Sto} {B : V} {l : List Int} {lo lo' x x' : Nat} (h : Ex m B l lo x) (hl : lo' ≤ lo) (hx : x ≤ x') (hm : ∀ j, lo ≤ j → j < x → m' j = m j) : Ex m' B l lo' x' := by
  rcases h with h | ⟨a, e, h1, h2, h3⟩
  · exact .inl h
  · exact .inr ⟨a, e, by rw [hm a h2 h3, h1], by omega, by omega⟩
theorem Ex.stor {m : Sto} {B : V} {l : List Int} {lo x : Nat} (h : Ex m B l lo x) : B.stor = true ∧ B.cells = [B] ∧ lenSl B = some l.length := by
  rcases h with ⟨rfl, rfl⟩ | ⟨a, rfl, _⟩ <;> exact ⟨rfl, rfl, rfl⟩
theorem Ex.over {m : Sto} {B : V} {l : List Int} {lo x y : Nat} (h : Ex m B l lo x) (hy : y ≤ lo) : B.over y = true := by
  rcases h with ⟨rfl, rfl⟩ | ⟨a, rfl, _, h2, _⟩
  · rfl
  · simp [V.over]; omega
theorem Ex.ref {m : Sto} {B : V} {l : List Int} {lo x j : Nat} (h : Ex m B l lo x) (hj : j ∈ refOf B) : lo ≤ j ∧ j < x := by
  rcases h with ⟨rfl, rfl⟩ | ⟨a, rfl, _, h2, h3⟩
  · simp [refOf] at hj
  · simp [refOf] at hj; omega
theorem IfK_neg {p a b : Prop} (h : ¬ p) : IfK p a b = b := by simp [IfK, h]
theorem Own.eq {m m' : Sto} {y s : Nat} (h : Own m y) (hm : ∀ j, j ≠ s → m' j = m j) (hs : ownO y (m' s) = true) : Own m' y := by
  intro j hj
  by_cases e : j = s
  · rw [e]; exact hs
  · rw [hm j e]; exact h j hj
theorem flat_plain.w {m : Sto} {x : Nat} {K : CR → Sto → Nat → Prop} (c : Int) (p : Nat) (hp : p ≤ 5)
    (hK : ∀ B m' x', x ≤ x' → (∀ j, j < x → m' j = m j) → Ex m' B (List.replicate p (-1)) x x' → (∀ y, y ≤ x → Own m y → Own m' y) → K (.ret (.ag [.i .i64 c, B])) m' x') :
    w ctx (envOf [.i .i64 c, .i .i64 p]) m x [] none none (RetG ctx flat_plain.c.rs K) flat_plain.c.code := by
  simp +contextual (disch := omega) [Nat.add_assoc, Int.add_assoc, if_pos, if_neg, -Int.not_lt, -Int.not_le, -Nat.not_lt, -Nat.not_le, -List.length_flatMap, flat_plain.c]
  rw [CallX_op (by rfl)]
  refine openg_w rfl rfl (.inl rfl) ?_
  have hfo : ctx.frz slices_Repeat_int.n = false := rfl
  rw [hfo]
  refine slices_Repeat_int.w (a := x + 2) p hp (by rw [Sto.seq]) (by omega) ?_
  intro B m1 x1 hx1 hm1 hB
  have h0 : m1 x = some (.cells [.i .i64 0, .ns] false) := by rw [hm1 x (by omega)]; simp +contextual (disch := omega) [Nat.add_assoc, Int.add_assoc, if_pos, if_neg, -Int.not_lt, -Int.not_le, -Nat.not_lt, -Nat.not_le, -List.length_flatMap]
  have hst : B.stor = true ∧ B.cells = [B] := by
    rcases hB with ⟨_, rfl, _⟩ | ⟨_, rfl, _⟩ <;> exact ⟨rfl, rfl⟩
  have hov : ∀ y, y ≤ x → B.over y = true := fun y hy => by
    rcases hB with ⟨_, rfl, _⟩ | ⟨_, rfl, _⟩
    · rfl
    · simp [V.over]; omega
  simp +contextual (disch := omega) [Nat.add_assoc, Int.add_assoc, if_pos, if_neg, -Int.not_lt, -Int.not_le, -Nat.not_lt, -Nat.not_le, -List.length_flatMap, h0, hst.1, hst.2]
  refine hK B _ _ (by omega) (fun j hj => by rw [Sto.sne _ _ _ _ (by omega), hm1 j (by omega), Sto.sne _ _ _ _ (by omega), Sto.sne _ _ _ _ (by omega)]) ?_ (fun y hy ho => ?_)
  · rcases hB with ⟨h, rfl, _⟩ | ⟨h, rfl, hc⟩
    · rw [h]; exact .inl ⟨rfl, rfl⟩
    · exact .inr ⟨x + 4 + 21, by simp, by rw [Sto.sne _ _ _ _ (by omega), hc], by omega, by omega⟩
  · have o1 := (ho.set (l := x) (o := some (.cells [.i .i64 0, .ns] false)) (by simp [ownO, overL, V.over])).set (l := x + 2) (o := some (.cells [.i .i64 (-1)] false)) (by simp [ownO, overL, V.over])
    refine Own.set ?_ (by simp [ownO, overL, V.over, hov y hy])
    rcases hB with ⟨_, _, rfl⟩ | ⟨h, _, hc⟩
    · exact o1
    · refine o1.eq hm1 ?_
      rw [hc]
      exact over_cI y _
def upO (n : Int) : Int := if n = -1 then n else n + 1
def succF (f : F) : F := ⟨f.cst + 1, f.offs.map upO⟩
theorem upO_step {l : List Int} {i : Nat} (hi : i < l.length) : ((l.take i).map upO ++ l.drop i).set i (upO l[i]) = (l.take (i + 1)).map upO ++ l.drop (i + 1) := by
  rw [List.set_append_right _ _ (by simp; omega), List.length_map, List.length_take, Nat.min_eq_left (by omega), Nat.sub_self, List.drop_eq_getElem_cons hi, List.set_cons_zero, List.take_succ_eq_append_getElem hi, List.map_append, List.append_assoc]
  rfl
theorem flat_succ.w {m : Sto} {x lo : Nat} {K : CR → Sto → Nat → Prop} (f : F) (B : V) (hB : Ex m B f.offs lo x) (hlo : lo ≤ x) (hc : 0 ≤ f.cst ∧ f.cst ≤ 1000) (ho : ∀ a ∈ f.offs, -1 ≤ a ∧ a ≤ 1000) (hl : f.offs.length ≤ 1000)
    (hK : ∀ m' x', x ≤ x' → (∀ j, j < lo → m' j = m j) → Ex m' B (succF f).offs lo x' → (∀ y, y ≤ lo → Own m y → Own m' y) → K (.ret (.ag [.i .i64 (f.cst + 1), B])) m' x') :
    w ctx (envOf [.ag [.i .i64 f.cst, B]]) m x [] none none (RetG ctx flat_succ.c.rs K) flat_succ.c.code := by
  rcases hB with ⟨rfl, he⟩ | ⟨a, rfl, h1, h2, h3⟩
  · simp +contextual (disch := omega) [Nat.add_assoc, Int.add_assoc, if_pos, if_neg, -Int.not_lt, -Int.not_le, -Nat.not_lt, -Nat.not_le, -List.length_flatMap, flat_succ.c]
    refine un_w ?_
    simp +contextual (disch := omega) [Nat.add_assoc, Int.add_assoc, if_pos, if_neg, -Int.not_lt, -Int.not_le, -Nat.not_lt, -Nat.not_le, -List.length_flatMap, flat_succ.b1]
    refine hK _ _ (by omega) (fun j hj => by simp +contextual (disch := omega) [Nat.add_assoc, Int.add_assoc, if_pos, if_neg, -Int.not_lt, -Int.not_le, -Nat.not_lt, -Nat.not_le, -List.length_flatMap]) (.inl ⟨rfl, by simp [succF, he]⟩) (fun y hy h => ?_)
    exact (((h.set (l := x) (by simp [ownO, overL, V.over])).set (l := x + 1) (by simp [ownO, overL, V.over])).set (l := x) (by simp [ownO, overL, V.over])).set (l := x + 1) (by simp [ownO, overL, V.over])
  · obtain ⟨N, hN⟩ : ∃ N, N = f.offs.length := ⟨_, rfl⟩
    rw [← hN] at hK ⊢
    simp +contextual (disch := omega) [Nat.add_assoc, Int.add_assoc, if_pos, if_neg, -Int.not_lt, -Int.not_le, -Nat.not_lt, -Nat.not_le, -List.length_flatMap, flat_succ.c]
    refine for_w (fun i e m' x' => e 1 = .p x 0 ∧ e 2 = .p (x + 1) 0 ∧ e 10 = .ms a 0 N 1 ∧ e 11 = .i .i64 N ∧ e 12 = .i .i64 i ∧ x + 11 ≤ x' ∧ m' x = some (.cells [.i .i64 (f.cst + 1), .ms a 0 N 1] false) ∧ m' (x + 1) = some (.cells [.i .i64 0, .ns] false) ∧
      m' a = some (.cells (((f.offs.take i).map upO ++ f.offs.drop i).flatMap cI) false) ∧ (∀ j, j < lo → m' j = m j) ∧ (∀ y, y ≤ lo → Own m y → Own m' y)) N ?_ ?_ ?_
    · simp +contextual (disch := omega) [Nat.add_assoc, Int.add_assoc, if_pos, if_neg, -Int.not_lt, -Int.not_le, -Nat.not_lt, -Nat.not_le, -List.length_flatMap, h1]
      refine fun y hy h => ?_
      have hya : y ≤ a := by omega
      exact ((h.set (l := x) (by simp [ownO, overL, hya, V.over])).set (l := x + 1) (by simp [ownO, overL, V.over])).set (l := x) (by simp [ownO, overL, hya, V.over])
    · rintro i e m' x' hi ⟨g1, g2, g10, g11, g12, gx, y0, y1, ya, gl, go⟩
      have hi' : i < f.offs.length := by omega
      have hoi := ho _ (List.getElem_mem hi')
      obtain ⟨o, hoe⟩ : ∃ o, o = (f.offs.take i).map upO ++ f.offs.drop i := ⟨_, rfl⟩
      rw [← hoe] at ya
      have hlen : o.length = N := by rw [hoe]; simp; omega
      have hat : ∀ h : i < o.length, o[i] = f.offs[i] := by
        subst hoe
        intro h
        rw [List.getElem_append_right (by simp; omega)]
        simp [List.length_take, Nat.min_eq_left (Nat.le_of_lt hi')]
      have hst : o.set i (upO f.offs[i]) = (f.offs.take (i + 1)).map upO ++ f.offs.drop (i + 1) := by rw [hoe]; exact upO_step hi'
      have hcl : (o.flatMap cI).length = o.length := flatI_len o
      have hiL : i < o.length := by omega
      have hat' : ∀ h : i < (o.flatMap cI).length, (o.flatMap cI)[i] = V.i .i64 f.offs[i] := fun h => by rw [flatI_get h, hat]
      obtain ⟨o2, ho2⟩ : ∃ o2, o2 = (f.offs.take (i + 1)).map upO ++ f.offs.drop (i + 1) := ⟨_, rfl⟩
      rw [← ho2] at hst ⊢
      by_cases hm : f.offs[i] = -1
      · have e1 : upO f.offs[i] = f.offs[i] := by unfold upO; rw [if_pos hm]
        have e2 : o.set i f.offs[i] = o := by rw [← hat hiL]; exact List.set_getElem_self hiL
        rw [e1, e2] at hst
        subst hst
        simp +contextual (disch := omega) [Nat.add_assoc, Int.add_assoc, if_pos, if_neg, -Int.not_lt, -Int.not_le, -Nat.not_lt, -Nat.not_le, -List.length_flatMap, flat_succ.b1, g1, g2, g10, g11, g12, y0, y1, ya, hi, hlen, hcl, hat', hm]
        exact ⟨by omega, gl, go⟩
      · have e1 : upO f.offs[i] = f.offs[i] + 1 := by unfold upO; rw [if_neg hm]
        rw [e1] at hst
        simp +contextual (disch := omega) [Nat.add_assoc, Int.add_assoc, if_pos, if_neg, -Int.not_lt, -Int.not_le, -Nat.not_lt, -Nat.not_le, -List.length_flatMap, flat_succ.b1, g1, g2, g10, g11, g12, y0, y1, ya, hi, hlen, hcl, hat', hm]
        rw [flatI_set hiL, hst]
        exact ⟨by omega, rfl, gl, fun y hy h => (go y hy h).set (over_cI y _)⟩
    · rintro e m' x' ⟨g1, g2, g10, g11, g12, gx, y0, y1, ya, gl, go⟩
      rw [hN, List.take_length, List.drop_of_length_le (Nat.le_refl _), List.append_nil] at ya
      simp +contextual (disch := omega) [Nat.add_assoc, Int.add_assoc, if_pos, if_neg, -Int.not_lt, -Int.not_le, -Nat.not_lt, -Nat.not_le, -List.length_flatMap, flat_succ.b1, g1, g2, g10, g11, g12, y0, y1]
      refine hK _ _ (by omega) (fun j hj => by rw [Sto.sne _ _ _ _ (by omega), gl j hj]) (.inr ⟨a, by simp [succF, hN], by rw [Sto.sne _ _ _ _ (by omega), ya]; rfl, h2, by omega⟩) (fun y hy h => ?_)
      exact (go y hy h).set (by simp [ownO, overL, V.over]; omega)
end Pi
