/- Contracts: arenas (layer 4): sizes. -/
import Derived.Test.YtdeichdplcafcaaC04c
set_option linter.unusedSimpArgs false
set_option linter.unusedVariables false
namespace Pi
section
variable {α : Type} {f : α → List V} {k : Nat}
def Eg (m : Sto) (B : V) (f : α → List V) (k : Nat) (l : List α) (lo x : Nat) : Prop := (B = .ns ∧ l = []) ∨ ∃ a, B = .ms a 0 l.length k ∧ m a = some (.cells (l.flatMap f) false) ∧ lo ≤ a ∧ a < x
theorem Eg.nil {m : Sto} {lo x : Nat} : Eg m .ns f k [] lo x := .inl ⟨rfl, rfl⟩
theorem Eg.bf [Cel f k] {m : Sto} {B : V} {l : List α} {lo x : Nat} (h : Eg m B f k l lo x) : Bf m B f k l lo x := by
  rcases h with ⟨rfl, rfl⟩ | ⟨a, rfl, h1, h2, h3⟩
  · exact Bf.nil
  · exact .mem h1 rfl rfl h2 h3
theorem Eg.up {m m' : Sto} {B : V} {l : List α} {lo lo' x x' : Nat} (h : Eg m B f k l lo x) (hl : lo' ≤ lo) (hx : x ≤ x') (hm : ∀ j, lo ≤ j → j < x → m' j = m j) : Eg m' B f k l lo' x' := by
  rcases h with h | ⟨a, e, h1, h2, h3⟩
  · exact .inl h
  · exact .inr ⟨a, e, by rw [hm a h2 h3, h1], by omega, by omega⟩
theorem Eg.stor {m : Sto} {B : V} {l : List α} {lo x : Nat} (h : Eg m B f k l lo x) : B.stor = true ∧ B.cells = [B] ∧ lenSl B = some l.length := by
  rcases h with ⟨rfl, rfl⟩ | ⟨a, rfl, _⟩ <;> exact ⟨rfl, rfl, rfl⟩
theorem Eg.at {m : Sto} {B : V} {l : List α} {lo x : Nat} (h : Eg m B f k l lo x) (h0 : l ≠ []) : ∃ a, B = .ms a 0 l.length k ∧ m a = some (.cells (l.flatMap f) false) ∧ lo ≤ a ∧ a < x := by
  rcases h with ⟨_, h⟩ | h
  · exact (h0 h).elim
  · exact h
theorem flat_ln [h : Cel f k] (l : List α) : (l.flatMap f).length = l.length * k := by
  induction l with
  | nil => simp
  | cons a r ih => rw [List.flatMap_cons, List.length_append, ih, h.len, List.length_cons, Nat.succ_mul]; omega
theorem Eg.ap [h : Cel f k] {m m' : Sto} {B : V} {l : List α} (l' : List α) {lo x slot n : Nat} {K : V → Ws → Prop} {xs : List V} (hB : Eg m B f k l lo x) (hm : ∀ j, lo ≤ j → j < x → m' j = m j) (hx : x ≤ slot) (hlo : lo ≤ x) (hxs : xs = l'.flatMap f) (hn : n = l'.length) (h0 : l'.length ≠ 0) (hl : l.length + l'.length ≤ 2147483648)
    (hK : ∀ B' ws m2, m'.app ws = m2 → Eg m2 B' f k (l ++ l') lo (slot + 1) → (∀ j, j < lo → m2 j = m' j) → (∀ j, x ≤ j → j < slot → m2 j = m' j) → K B' ws) : opK (apV m' k B xs n slot) K := by
  subst hn hxs
  rcases hB with ⟨rfl, rfl⟩ | ⟨a, rfl, h1, h2, h3⟩
  · have hB : l'.length ≤ BIG := by unfold BIG; simp at hl; omega
    rw [apV_ns, if_neg h0, if_pos hB]
    refine hK _ _ _ rfl (.inr ⟨slot, by simp, by rw [sapp_cons, sapp_nil, Sto.seq]; rfl, by omega, by omega⟩) (fun j hj => ?_) (fun j h1 h2 => ?_)
    · rw [sapp_cons, sapp_nil, Sto.sne _ _ _ _ (by simp only; omega)]
    · rw [sapp_cons, sapp_nil, Sto.sne _ _ _ _ (by simp only; omega)]
  · have hB : l.length + l'.length ≤ BIG := by unfold BIG; omega
    have ha : m' a = some (.cells (l.flatMap f) false) := by rw [hm a h2 h3, h1]
    have hf := flat_ln (f := f) (k := k) l
    rw [apV_ms, if_neg h0, ha, apO_cells, if_pos ⟨rfl, by rw [hf]; exact Nat.le_refl _, hB⟩, List.take_of_length_le (by rw [hf]; exact Nat.le_refl _)]
    have far : ∀ j, j ≠ a → j ≠ slot → (m'.app [(a, none), (slot, some (.cells (l.flatMap f ++ l'.flatMap f) false))]) j = m' j := by
      intro j q1 q2
      rw [sapp_cons, sapp_cons, sapp_nil, Sto.sne _ _ _ _ q2, Sto.sne _ _ _ _ q1]
    exact hK _ _ _ rfl (.inr ⟨slot, by simp, by rw [sapp_cons, sapp_cons, sapp_nil, Sto.seq, List.flatMap_append], by omega, by omega⟩) (fun j hj => far j (by omega) (by omega)) (fun j h1 h2 => far j (by omega) (by omega))
end
/-- How deep a node is, and how many there are in it. -/
def szOne (out : List A) (x : N) : A :=
  let a := out.getD x.a.toNat ⟨0, 0⟩
  let b := out.getD x.b.toNat ⟨0, 0⟩
  if kidsS x.kind = 0 then ⟨1, 1⟩ else if kidsS x.kind = 1 then ⟨a.var + 1, min (1 + a.off) 1000⟩ else ⟨max a.var b.var + 1, min (1 + a.off + b.off) 1000⟩
def szT (l : List N) : Nat → List A
  | 0 => []
  | i + 1 => match l[i]? with
    | none => szT l i
    | some x => szT l i ++ [szOne (szT l i) x]
theorem szT_ok (l : List N) : ∀ i, i ≤ l.length → (szT l i).length = i ∧ ∀ a ∈ szT l i, (1 ≤ a.var ∧ a.var ≤ i) ∧ (1 ≤ a.off ∧ a.off ≤ 1000)
  | 0, _ => by simp [szT]
  | i + 1, hi => by
    obtain ⟨h1, h2⟩ := szT_ok l i (by omega)
    rw [szT, List.getElem?_eq_getElem (by omega)]
    refine ⟨by simp [h1], fun a ha => ?_⟩
    simp only [List.mem_append, List.mem_singleton] at ha
    rcases ha with ha | rfl
    · have := h2 a ha; omega
    · have hg : ∀ j : Nat, 0 ≤ ((szT l i).getD j ⟨0, 0⟩).var ∧ ((szT l i).getD j ⟨0, 0⟩).var ≤ i ∧ 0 ≤ ((szT l i).getD j ⟨0, 0⟩).off ∧ ((szT l i).getD j ⟨0, 0⟩).off ≤ 1000 := fun j => by
        by_cases hj : j < (szT l i).length
        · have := h2 _ (List.getElem_mem hj)
          simp [hj]
          omega
        · simp [List.getElem?_eq_none (by omega : (szT l i).length ≤ j)]
      have ga := hg l[i].a.toNat
      have gb := hg l[i].b.toNat
      unfold szOne
      simp only
      split
      · simp only; omega
      · split
        · simp only; omega
        · simp only; omega
theorem fit_kids {x : N} {i : Nat} (h : fitN x i = true) : (kidsS x.kind = 0 ∧ x.a = 0 ∧ x.b = 0) ∨ (kidsS x.kind = 1 ∧ (∃ a : Nat, x.a = a ∧ a < i) ∧ x.b = 0) ∨ (kidsS x.kind = 2 ∧ (∃ a : Nat, x.a = a ∧ a < i) ∧ (∃ b : Nat, x.b = b ∧ b < i)) := by
  unfold fitN at h
  rcases kidsS_cases x.kind with ⟨e, _⟩ | ⟨e, _⟩ | ⟨e, _⟩ | ⟨e, _⟩ <;> rw [e] at h <;> simp at h
  · exact .inl ⟨e, h.1.1.1, h.1.1.2⟩
  · exact .inr (.inl ⟨e, ⟨x.a.toNat, by omega, by omega⟩, h.1.1.2⟩)
  · exact .inr (.inr ⟨e, ⟨x.a.toNat, by omega, by omega⟩, ⟨x.b.toNat, by omega, by omega⟩⟩)
theorem fitAll_get : ∀ {l : List N} {i j : Nat}, fitAll l i = true → (h : j < l.length) → fitN l[j] (i + j : Nat) = true
  | x :: r, i, 0, h, _ => by
    rw [fitAll, Bool.and_eq_true] at h
    exact h.1
  | x :: r, i, j + 1, h, hj => by
    rw [fitAll, Bool.and_eq_true] at h
    have := fitAll_get (i := i + 1) (j := j) h.2 (by simpa using hj)
    rw [(by omega : i + (j + 1) = i + 1 + j)]
    exact this
theorem flatA_get (l : List A) (p : Nat) (h : p < l.length) : (l.flatMap cA)[p * 2]? = some (.i .i64 l[p].var) ∧ (l.flatMap cA)[p * 2 + 1]? = some (.i .i64 l[p].off) := by
  induction l generalizing p with
  | nil => simp at h
  | cons a r ih =>
    cases p with
    | zero => exact ⟨rfl, rfl⟩
    | succ p =>
      have := ih p (by simpa using h)
      rw [List.flatMap_cons]
      refine ⟨?_, ?_⟩
      · rw [(by rw [cA_len]; omega : (p + 1) * 2 = (cA a).length + p * 2), List.getElem?_append_right (by omega), Nat.add_sub_cancel_left]
        simpa using this.1
      · rw [(by rw [cA_len]; omega : (p + 1) * 2 + 1 = (cA a).length + (p * 2 + 1)), List.getElem?_append_right (by omega), Nat.add_sub_cancel_left]
        simpa using this.2
set_option maxRecDepth 5000 in
set_option maxHeartbeats 1000000 in
theorem arena_sizes.a (l : List N) (hl : l.length ≤ 1000) (hf : fitAll l 0 = true) : Ans ctx arena_sizes.n [.ag [sV cN l]] (sV cA (szT l l.length)) := by
  refine ans arena_sizes.f ?_
  simp +contextual (disch := omega) [Nat.add_assoc, Int.add_assoc, if_pos, if_neg, -Int.not_lt, -Int.not_le, -Nat.not_lt, -Nat.not_le, -List.length_flatMap, arena_sizes.c]
  refine for_w (fun i e m x => e 1 = .p 0 0 ∧ e 9 = sV cN l ∧ e 10 = .i .i64 l.length ∧ e 11 = .i .i64 i ∧ 1 ≤ x ∧ m 0 = some (.cells [sV cN l] false) ∧ Eg m (e 2) cA 2 (szT l i) 1 x) l.length ?_ ?_ ?_
  · simp +contextual (disch := omega) [Nat.add_assoc, Int.add_assoc, if_pos, if_neg, -Int.not_lt, -Int.not_le, -Nat.not_lt, -Nat.not_le, -List.length_flatMap]
    exact Eg.nil
  · rintro i e m x hi ⟨g1, g9, g10, g11, gx, g0, gB⟩
    have hfi : fitN l[i] (i : Nat) = true := by have := fitAll_get hf hi; simpa using this
    have hk := arena_kids.a l[i].kind
    obtain ⟨z1, z2⟩ := szT_ok l i (by omega)
    have hst := gB.stor
    have hz : szT l (i + 1) = szT l i ++ [szOne (szT l i) l[i]] := by rw [szT, List.getElem?_eq_getElem hi]
    rw [hz]
    unfold szOne
    generalize szT l i = Z at *
    generalize hB : e 2 = B at *
    rcases fit_kids hfi with ⟨k0, ka, kb⟩ | ⟨k0, ⟨a, ka, ha⟩, kb⟩ | ⟨k0, ⟨a, ka, ha⟩, ⟨b, kb, hb⟩⟩
    · rw [k0] at hk
      simp +contextual (disch := omega) [Nat.add_assoc, Int.add_assoc, if_pos, if_neg, -Int.not_lt, -Int.not_le, -Nat.not_lt, -Nat.not_le, -List.length_flatMap, arena_sizes.b2, g1, g9, g10, g11, g0, hi, ansK hk, hB]
      refine un_w ?_
      simp +contextual (disch := omega) [Nat.add_assoc, Int.add_assoc, if_pos, if_neg, -Int.not_lt, -Int.not_le, -Nat.not_lt, -Nat.not_le, -List.length_flatMap, arena_sizes.b1, hB, hst.1, hst.2.1, -apV_ns]
      refine gB.ap [⟨1, 1⟩] (fun j h1 h2 => by simp +contextual (disch := omega) [Nat.add_assoc, Int.add_assoc, if_pos, if_neg, -Int.not_lt, -Int.not_le, -Nat.not_lt, -Nat.not_le, -List.length_flatMap]) (by omega) (by omega) rfl rfl (by simp) (by simp; omega) ?_
      intro B' ws m2 z0 z1 z2 z3
      have r0 : m2 0 = some (.cells [sV cN l] false) := by rw [z2 0 (by omega)]; simp +contextual (disch := omega) [Nat.add_assoc, Int.add_assoc, if_pos, if_neg, -Int.not_lt, -Int.not_le, -Nat.not_lt, -Nat.not_le, -List.length_flatMap, g0]
      have hst2 := z1.stor
      simp +contextual (disch := omega) [Nat.add_assoc, Int.add_assoc, if_pos, if_neg, -Int.not_lt, -Int.not_le, -Nat.not_lt, -Nat.not_le, -List.length_flatMap, z0, g1, g9, g10, g11, r0, hst2.1, hst2.2.1]
      exact z1.up (Nat.le_refl _) (by omega) (fun _ _ _ => rfl)
    · rw [k0] at hk
      obtain ⟨c, hcB, hc2, hc3, hc4⟩ := gB.at (by intro h; rw [h] at z1; simp at z1; omega)
      have haz : a < Z.length := by omega
      obtain ⟨r1, r2⟩ := flatA_get Z a haz
      have zb := z2 _ (List.getElem_mem haz)
      have hgd : Z.getD a ⟨0, 0⟩ = Z[a] := by simp [haz]
      have hln : (Z.flatMap cA).length = i * 2 := by rw [flat_ln (k := 2), z1]
      obtain ⟨P, hP⟩ : ∃ P, P = a * 2 := ⟨_, rfl⟩
      rw [← hP] at r1 r2
      have hta : l[i].a.toNat = a := by omega
      have q1 : ∀ h, (Z.flatMap cA)[P]'h = .i .i64 Z[a].var := fun h => by rw [List.getElem?_eq_getElem h] at r1; exact Option.some.inj r1
      have q2 : ∀ h, (Z.flatMap cA)[P + 1]'h = .i .i64 Z[a].off := fun h => by rw [List.getElem?_eq_getElem h] at r2; exact Option.some.inj r2
      simp only [k0, hta, hgd]
      generalize Z[a] = w at *
      obtain ⟨wv, wo⟩ := w
      simp only at zb q1 q2 r1 r2
      have hm0 : max 0 wv = wv := by omega
      simp +contextual (disch := omega) [Nat.add_assoc, Int.add_assoc, if_pos, if_neg, -Int.not_lt, -Int.not_le, -Nat.not_lt, -Nat.not_le, -List.length_flatMap, arena_sizes.b2, g1, g9, g10, g11, g0, hi, ansK hk, hB]
      refine un_w ?_
      simp +contextual (disch := omega) [Nat.add_assoc, Int.add_assoc, if_pos, if_neg, -Int.not_lt, -Int.not_le, -Nat.not_lt, -Nat.not_le, -List.length_flatMap, arena_sizes.b1, hB, hcB, ka, hc2, z1, ha, hP.symm, hln, r1, r2, q1, q2, hm0]
      refine un_w ?_
      simp +contextual (disch := omega) [Nat.add_assoc, Int.add_assoc, if_pos, if_neg, -Int.not_lt, -Int.not_le, -Nat.not_lt, -Nat.not_le, -List.length_flatMap, arena_sizes.b1, hB, hst.1, hst.2.1, -apV_ns]
      refine gB.ap [⟨wv + 1, min (1 + wo) 1000⟩] (fun j h1 h2 => by simp +contextual (disch := omega) [Nat.add_assoc, Int.add_assoc, if_pos, if_neg, -Int.not_lt, -Int.not_le, -Nat.not_lt, -Nat.not_le, -List.length_flatMap]) (by omega) (by omega) rfl rfl (by simp) (by simp; omega) ?_
      intro B' ws m2 z0 z1 z2 z3
      have r0 : m2 0 = some (.cells [sV cN l] false) := by rw [z2 0 (by omega)]; simp +contextual (disch := omega) [Nat.add_assoc, Int.add_assoc, if_pos, if_neg, -Int.not_lt, -Int.not_le, -Nat.not_lt, -Nat.not_le, -List.length_flatMap, g0]
      have hst2 := z1.stor
      simp +contextual (disch := omega) [Nat.add_assoc, Int.add_assoc, if_pos, if_neg, -Int.not_lt, -Int.not_le, -Nat.not_lt, -Nat.not_le, -List.length_flatMap, z0, g1, g9, g10, g11, r0, hst2.1, hst2.2.1]
      exact z1.up (Nat.le_refl _) (by omega) (fun _ _ _ => rfl)
    · rw [k0] at hk
      obtain ⟨c, hcB, hc2, hc3, hc4⟩ := gB.at (by intro h; rw [h] at z1; simp at z1; omega)
      have haz : a < Z.length := by omega
      have hbz : b < Z.length := by omega
      obtain ⟨r1, r2⟩ := flatA_get Z a haz
      obtain ⟨s1, s2⟩ := flatA_get Z b hbz
      have zb := z2 _ (List.getElem_mem haz)
      have zc := z2 _ (List.getElem_mem hbz)
      have hgd : Z.getD a ⟨0, 0⟩ = Z[a] := by simp [haz]
      have hgd2 : Z.getD b ⟨0, 0⟩ = Z[b] := by simp [hbz]
      have hln : (Z.flatMap cA).length = i * 2 := by rw [flat_ln (k := 2), z1]
      obtain ⟨P, hP⟩ : ∃ P, P = a * 2 := ⟨_, rfl⟩
      obtain ⟨Q, hQ⟩ : ∃ Q, Q = b * 2 := ⟨_, rfl⟩
      rw [← hP] at r1 r2
      rw [← hQ] at s1 s2
      have hta : l[i].a.toNat = a := by omega
      have htb : l[i].b.toNat = b := by omega
      have q1 : ∀ h, (Z.flatMap cA)[P]'h = .i .i64 Z[a].var := fun h => by rw [List.getElem?_eq_getElem h] at r1; exact Option.some.inj r1
      have q2 : ∀ h, (Z.flatMap cA)[P + 1]'h = .i .i64 Z[a].off := fun h => by rw [List.getElem?_eq_getElem h] at r2; exact Option.some.inj r2
      have p1 : ∀ h, (Z.flatMap cA)[Q]'h = .i .i64 Z[b].var := fun h => by rw [List.getElem?_eq_getElem h] at s1; exact Option.some.inj s1
      have p2 : ∀ h, (Z.flatMap cA)[Q + 1]'h = .i .i64 Z[b].off := fun h => by rw [List.getElem?_eq_getElem h] at s2; exact Option.some.inj s2
      simp only [k0, hta, htb, hgd, hgd2]
      generalize Z[a] = w at *
      generalize Z[b] = u at *
      obtain ⟨wv, wo⟩ := w
      obtain ⟨uv, uo⟩ := u
      simp only at zb q1 q2 r1 r2 zc p1 p2 s1 s2
      have hm0 : max 0 wv = wv := by omega
      have hm1 : min (min (1 + wo) 1000 + uo) 1000 = min (1 + (wo + uo)) 1000 := by omega
      simp +contextual (disch := omega) [Nat.add_assoc, Int.add_assoc, if_pos, if_neg, -Int.not_lt, -Int.not_le, -Nat.not_lt, -Nat.not_le, -List.length_flatMap, arena_sizes.b2, g1, g9, g10, g11, g0, hi, ansK hk, hB]
      refine un_w ?_
      simp +contextual (disch := omega) [Nat.add_assoc, Int.add_assoc, if_pos, if_neg, -Int.not_lt, -Int.not_le, -Nat.not_lt, -Nat.not_le, -List.length_flatMap, arena_sizes.b1, hB, hcB, ka, hc2, z1, ha, hP.symm, hln, r1, r2, q1, q2, hm0]
      refine un_w ?_
      simp +contextual (disch := omega) [Nat.add_assoc, Int.add_assoc, if_pos, if_neg, -Int.not_lt, -Int.not_le, -Nat.not_lt, -Nat.not_le, -List.length_flatMap, arena_sizes.b1, hB, hcB, kb, hc2, z1, hb, hQ.symm, hln, s1, s2, p1, p2]
      refine un_w ?_
      simp +contextual (disch := omega) [Nat.add_assoc, Int.add_assoc, if_pos, if_neg, -Int.not_lt, -Int.not_le, -Nat.not_lt, -Nat.not_le, -List.length_flatMap, arena_sizes.b1, hB, hst.1, hst.2.1, -apV_ns]
      refine gB.ap [⟨max wv uv + 1, min (min (1 + wo) 1000 + uo) 1000⟩] (fun j h1 h2 => by simp +contextual (disch := omega) [Nat.add_assoc, Int.add_assoc, if_pos, if_neg, -Int.not_lt, -Int.not_le, -Nat.not_lt, -Nat.not_le, -List.length_flatMap]) (by omega) (by omega) rfl rfl (by simp) (by simp; omega) ?_
      intro B' ws m2 z0 z1 z2 z3
      have r0 : m2 0 = some (.cells [sV cN l] false) := by rw [z2 0 (by omega)]; simp +contextual (disch := omega) [Nat.add_assoc, Int.add_assoc, if_pos, if_neg, -Int.not_lt, -Int.not_le, -Nat.not_lt, -Nat.not_le, -List.length_flatMap, g0]
      have hst2 := z1.stor
      rw [hm1] at z1
      simp +contextual (disch := omega) [Nat.add_assoc, Int.add_assoc, if_pos, if_neg, -Int.not_lt, -Int.not_le, -Nat.not_lt, -Nat.not_le, -List.length_flatMap, z0, g1, g9, g10, g11, r0, hst2.1, hst2.2.1]
      exact z1.up (Nat.le_refl _) (by omega) (fun _ _ _ => rfl)
  · rintro e m x ⟨g1, g9, g10, g11, gx, g0, gB⟩
    have hz := gB.bf.fz24
    generalize hB : e 2 = B at gB hz
    simp +contextual (disch := omega) [Nat.add_assoc, Int.add_assoc, if_pos, if_neg, -Int.not_lt, -Int.not_le, -Nat.not_lt, -Nat.not_le, -List.length_flatMap, arena_sizes.b2, g1, g9, g10, g11, g0, hB, hz]
end Pi

