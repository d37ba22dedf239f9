/- Contracts: levels as bytes (layer 3): the writer. -/
import Derived.Test.YtdeichdplcafcaaC03a
import Derived.Test.YtdeichdplcafcaaC01
set_option linter.unusedSimpArgs false
set_option linter.unusedVariables false
namespace Pi
mutual
/-- A right level's bytes. -/
def textL : L → List Nat
  | .mk k n ks => digs k.toNat ++ (if k = 5 ∨ k = 6 then digs n.toNat else []) ++ textLs ks
def textLs : List L → List Nat
  | [] => []
  | k :: r => textL k ++ textLs r
end
theorem textLs_eq (ks : List L) : textLs ks = ks.flatMap textL := by
  induction ks with
  | nil => rfl
  | cons k r ih => simp [textLs, ih]
theorem textL_eq (l : L) : textL l = digs l.kind.toNat ++ (if l.kind = 5 ∨ l.kind = 6 then digs l.n.toNat else []) ++ l.kids.flatMap textL := by
  cases l with
  | mk k n ks => simp only [textL, textLs_eq]; rfl
theorem digs_ne (n : Nat) : digs n ≠ [] := by
  unfold digs
  split <;> simp
/-- A builder that holds a text. -/
def Bd (m : Sto) (q : Nat) (o : List Nat) (x : Nat) : Prop := ∃ ad B, m q = some (.tc 82 [ad, B]) ∧ (ad = .np ∨ ad = .p q 0) ∧ q < x ∧ ((o = [] ∧ B = .ns) ∨ ∃ b, b < x ∧ b ≠ q ∧ B = .ms b 0 o.length 1 ∧ m b = some (.tc 5 (ofBytes (bs o).data.toList)))
/-- What was no builder's is as it was. -/
def KeepC (m m' : Sto) (x : Nat) : Prop := ∀ j, j < x → ∀ cs r, m j = some (.cells cs r) → m' j = some (.cells cs r)
theorem KeepC.refl (m : Sto) (x : Nat) : KeepC m m x := fun _ _ _ _ h => h
theorem KeepC.trans {m m' m2 : Sto} {x y : Nat} (h : KeepC m m' x) (k : KeepC m' m2 y) (hx : x ≤ y) : KeepC m m2 x := fun j hj cs r e => k j (by omega) cs r (h j hj cs r e)
theorem Bd.up {m m' : Sto} {q x x' : Nat} {o : List Nat} (h : Bd m q o x) (hx : x ≤ x') (hm : ∀ j, j < x → m' j = m j) : Bd m' q o x' := by
  obtain ⟨ad, B, h1, h2, h3, h4⟩ := h
  refine ⟨ad, B, by rw [hm q h3, h1], h2, by omega, ?_⟩
  rcases h4 with h4 | ⟨b, b1, b2, b3, b4⟩
  · exact .inl h4
  · exact .inr ⟨b, by omega, b2, b3, by rw [hm b b1, b4]⟩
theorem ofBytes_app (a b : List UInt8) : ofBytes (a ++ b) = ofBytes a ++ ofBytes b := by simp [ofBytes]
theorem ofBytes_len (a : List UInt8) : (ofBytes a).length = a.length := by simp [ofBytes]
theorem bs_list (a b : List Nat) : (bs (a ++ b)).data.toList = (bs a).data.toList ++ (bs b).data.toList := by simp [bs]
theorem bs_llen (a : List Nat) : (bs a).data.toList.length = a.length := by simp [bs]
theorem strings_Builder_copyCheck.w {m : Sto} {x q : Nat} {K : CR → Sto → Nat → Prop} {ad B : V} (hm : m q = some (.tc 82 [ad, B])) (ha : ad = .np ∨ ad = .p q 0)
    (hK : ∀ m' x', x ≤ x' → m' q = some (.tc 82 [.p q 0, B]) → (∀ j, j ≠ q → m' j = m j) → K (.ret (.tu [])) m' x') :
    w ctx (envOf [.p q 0]) m x [] none none (RetG ctx strings_Builder_copyCheck.c.rs K) strings_Builder_copyCheck.c.code := by
  rcases ha with rfl | rfl
  · simp +contextual (disch := omega) [Nat.add_assoc, Int.add_assoc, if_pos, if_neg, -Int.not_lt, -Int.not_le, -Nat.not_lt, -Nat.not_le, -List.length_flatMap, strings_Builder_copyCheck.c, hm]
    exact hK _ _ (by omega) (Sto.seq _ _ _) (fun j hj => Sto.sne _ _ _ _ hj)
  · simp +contextual (disch := omega) [Nat.add_assoc, Int.add_assoc, if_pos, if_neg, -Int.not_lt, -Int.not_le, -Nat.not_lt, -Nat.not_le, -List.length_flatMap, strings_Builder_copyCheck.c, hm]
    exact hK _ _ (by omega) hm (fun j hj => rfl)
theorem strings_Builder_WriteString.w {m : Sto} {x q : Nat} {K : CR → Sto → Nat → Prop} {o : List Nat} (t : List Nat) (ht : t ≠ []) (hB : Bd m q o x) (hn : o.length + t.length ≤ 2147483648)
    (hK : ∀ m' x', x ≤ x' → Bd m' q (o ++ t) x' → KeepC m m' x → K (.ret (.tu [.i .i64 t.length, .ni])) m' x') :
    w ctx (envOf [.p q 0, .s (bs t)]) m x [] none none (RetG ctx strings_Builder_WriteString.c.rs K) strings_Builder_WriteString.c.code := by
  obtain ⟨ad, B, h1, h2, h3, h4⟩ := hB
  have hf : ctx.frz strings_Builder_copyCheck.n = false := rfl
  have htl : ¬ t.length = 0 := fun h => ht (List.length_eq_zero_iff.1 h)
  simp +contextual (disch := omega) [Nat.add_assoc, Int.add_assoc, if_pos, if_neg, -Int.not_lt, -Int.not_le, -Nat.not_lt, -Nat.not_le, -List.length_flatMap, strings_Builder_WriteString.c]
  rw [CallX_op (by rfl)]
  refine openg_w rfl rfl (.inl rfl) ?_
  rw [hf]
  refine strings_Builder_copyCheck.w h1 h2 ?_
  intro m1 x1 g1 g2 g3
  rcases h4 with ⟨rfl, rfl⟩ | ⟨b, b1, b2, rfl, b3⟩
  · simp +contextual (disch := omega) [Nat.add_assoc, Int.add_assoc, if_pos, if_neg, -Int.not_lt, -Int.not_le, -Nat.not_lt, -Nat.not_le, -List.length_flatMap, g2, htl]
    refine hK _ _ (by omega) ⟨_, _, Sto.seq _ _ _, .inr rfl, by omega, .inr ⟨x1 + 6, by omega, by omega, by simp, ?_⟩⟩ ?_
    · rw [Sto.sne _ _ _ _ (by omega), Sto.seq]; simp
    · intro j hj cs r e
      have hq : j ≠ q := fun h => by rw [h, h1] at e; cases e
      rw [Sto.sne _ _ _ _ hq, Sto.sne _ _ _ _ (by omega), g3 j hq, e]
  · have g4 := g3 b b2
    rw [b3] at g4
    simp +contextual (disch := omega) [Nat.add_assoc, Int.add_assoc, if_pos, if_neg, -Int.not_lt, -Int.not_le, -Nat.not_lt, -Nat.not_le, -List.length_flatMap, g2, g4, htl, ofBytes_len, bs_llen]
    refine hK _ _ (by omega) ⟨_, _, Sto.seq _ _ _, .inr rfl, by omega, .inr ⟨x1 + 6, by omega, by omega, by simp, ?_⟩⟩ ?_
    · rw [Sto.sne _ _ _ _ (by omega), Sto.seq, bs_list, ofBytes_app, List.take_of_length_le (by rw [ofBytes_len, bs_llen]; exact Nat.le_refl _)]
    · intro j hj cs r e
      have hq : j ≠ q := fun h => by rw [h, h1] at e; cases e
      have hb : j ≠ b := fun h => by rw [h, b3] at e; cases e
      rw [Sto.sne _ _ _ _ hq, Sto.sne _ _ _ _ (by omega), Sto.sne _ _ _ _ hb, g3 j hq, e]
theorem lcode_write_1.w {m : Sto} {x q c : Nat} {K : CR → Sto → Nat → Prop} {o : List Nat} {r : Bool} (n : Int) (h0 : 0 ≤ n) (h9 : n ≤ 1099511627776) (hc : m c = some (.cells [.p q 0] r)) (hB : Bd m q o x) (hn : o.length + (digs n.toNat).length ≤ 2147483648)
    (hK : ∀ m' x', x ≤ x' → Bd m' q (o ++ digs n.toNat) x' → KeepC m m' x → K (.ret (.tu [])) m' x') :
    w ctx (envOf [.i .i64 n, .p c 0]) m x [] none none (RetG ctx lcode_write_1.c.rs K) lcode_write_1.c.code := by
  have hp := octet_Put.a n
  unfold putS at hp
  rw [if_neg (by omega)] at hp
  have hf : ctx.frz strings_Builder_WriteString.n = false := rfl
  simp +contextual (disch := omega) [Nat.add_assoc, Int.add_assoc, if_pos, if_neg, -Int.not_lt, -Int.not_le, -Nat.not_lt, -Nat.not_le, -List.length_flatMap, lcode_write_1.c, ansK hp, hc]
  rw [CallX_op (by rfl)]
  refine openg_w rfl rfl (.inl rfl) ?_
  rw [hf]
  refine strings_Builder_WriteString.w (digs n.toNat) (digs_ne _) (hB.up (Nat.le_add_right _ _) (fun j hj => rfl)) hn ?_
  intro m' x' k1 k2 k3
  simp +contextual (disch := omega) [Nat.add_assoc, Int.add_assoc, if_pos, if_neg, -Int.not_lt, -Int.not_le, -Nat.not_lt, -Nat.not_le, -List.length_flatMap]
  exact hK _ _ (by omega) (k2.up (by omega) (fun j hj => rfl)) (fun j hj => k3 j (by omega))
theorem lcode_write_loop (l : L) {K : CR → Sto → Nat → Prop} {e : Env} {m : Sto} {x c q : Nat} (P : List Nat) (hlen : l.kids.length ≤ 9223372036854775807)
    (ih : ∀ k ∈ l.kids, ∀ (o : List Nat) {m : Sto} {x : Nat} {K : CR → Sto → Nat → Prop}, Bd m q o x → o.length + (textL k).length ≤ 2147483648 →
      (∀ m' x', x ≤ x' → Bd m' q (o ++ textL k) x' → KeepC m m' x → K (.ret (.tu [])) m' x') → w ctx (envOf [.p q 0, .ag (cL k)]) m x [] none none (RetG ctx lcode_write.c.rs K) lcode_write.c.code)
    (e2 : e 2 = .p c 0) (e21 : e 21 = sV cL l.kids) (e22 : e 22 = .i .i64 l.kids.length) (e23 : e 23 = .i .i64 0) (hc : m c = some (.cells [.p q 0] false)) (hcx : c < x) (hB : Bd m q P x)
    (hn : P.length + (l.kids.flatMap textL).length ≤ 2147483648)
    (hK : ∀ m' x', x ≤ x' → Bd m' q (P ++ l.kids.flatMap textL) x' → KeepC m m' x → K (.ret (.tu [])) m' x') :
    w ctx e m x [] none none (BlkK 0 (RetG ctx [] K)) (.loop lcode_write.b1) := by
  have hfw : ctx.frz lcode_write.n = false := rfl
  refine for_w (fun i e' m' x' => e' 2 = .p c 0 ∧ e' 21 = sV cL l.kids ∧ e' 22 = .i .i64 l.kids.length ∧ e' 23 = .i .i64 i ∧ x ≤ x' ∧ Bd m' q (P ++ (l.kids.take i).flatMap textL) x' ∧ KeepC m m' x) l.kids.length ?_ ?_ ?_
  · exact ⟨e2, e21, e22, e23, Nat.le_refl _, by simpa using hB, .refl _ _⟩
  · rintro i e' m' x' hi ⟨g1, g2, g3, g4, g5, g6, g7⟩
    have c0 := g7 c hcx _ _ hc
    have hT : (l.kids.take (i + 1)).flatMap textL = (l.kids.take i).flatMap textL ++ textL l.kids[i] := by
      rw [List.take_succ_eq_append_getElem hi, List.flatMap_append]; simp
    have hall : l.kids.flatMap textL = (l.kids.take (i + 1)).flatMap textL ++ (l.kids.drop (i + 1)).flatMap textL := by
      rw [← List.flatMap_append, List.take_append_drop]
    have hle := congrArg List.length hall
    rw [hT] at hle
    simp only [List.length_append] at hle
    simp +contextual (disch := omega) [Nat.add_assoc, Int.add_assoc, if_pos, if_neg, -Int.not_lt, -Int.not_le, -Nat.not_lt, -Nat.not_le, -List.length_flatMap, lcode_write.b1, g1, g2, g3, g4, hi, c0]
    rw [CallX_op (by rfl)]
    refine openg_w rfl rfl (.inl rfl) ?_
    rw [hfw]
    refine ih _ (List.getElem_mem hi) (P ++ (l.kids.take i).flatMap textL) (g6.up (by omega) (fun j hj => ?_)) (by rw [List.length_append]; omega) ?_
    · simp +contextual (disch := omega) [Nat.add_assoc, Int.add_assoc, if_pos, if_neg, -Int.not_lt, -Int.not_le, -Nat.not_lt, -Nat.not_le, -List.length_flatMap]
    intro m2 x2 k1 k2 k3
    simp +contextual (disch := omega) [Nat.add_assoc, Int.add_assoc, if_pos, if_neg, -Int.not_lt, -Int.not_le, -Nat.not_lt, -Nat.not_le, -List.length_flatMap, g1, g2, g3, g4]
    refine ⟨by omega, ?_, ?_⟩
    · rw [hT, ← List.append_assoc]
      exact k2.up (by omega) (fun j hj => rfl)
    · intro j hj cs r h
      refine k3 j (by omega) cs r ?_
      have := g7 j hj cs r h
      simp +contextual (disch := omega) [Nat.add_assoc, Int.add_assoc, if_pos, if_neg, -Int.not_lt, -Int.not_le, -Nat.not_lt, -Nat.not_le, -List.length_flatMap, this]
  · rintro e' m' x' ⟨g1, g2, g3, g4, g5, g6, g7⟩
    rw [List.take_length] at g6
    simp +contextual (disch := omega) [Nat.add_assoc, Int.add_assoc, if_pos, if_neg, -Int.not_lt, -Int.not_le, -Nat.not_lt, -Nat.not_le, -List.length_flatMap, lcode_write.b1, g1, g2, g3, g4]
    exact hK _ _ (by omega) (g6.up (by omega) (fun j hj => rfl)) g7
theorem lcode_write.w (l : L) : l.Ok → ∀ (d : Int) (h : rightS l 5 10 d = true) (o : List Nat) {m : Sto} {x q : Nat} {K : CR → Sto → Nat → Prop}, Bd m q o x → o.length + (textL l).length ≤ 2147483648 →
    (∀ m' x', x ≤ x' → Bd m' q (o ++ textL l) x' → KeepC m m' x → K (.ret (.tu [])) m' x') →
    w ctx (envOf [.p q 0, .ag (cL l)]) m x [] none none (RetG ctx lcode_write.c.rs K) lcode_write.c.code := by
  induction l using L.ind with
  | h l ih =>
  intro ok d h o m x q K hB hn hK
  have hf : ctx.frz lcode_write_1.n = false := rfl
  have hfw : ctx.frz lcode_write.n = false := rfl
  obtain ⟨r1, r2, r3, r4⟩ := right_kid h
  have hk := right_kind h
  rw [textL_eq] at hn hK
  simp only [List.length_append] at hn
  simp +contextual (disch := omega) [Nat.add_assoc, Int.add_assoc, if_pos, if_neg, -Int.not_lt, -Int.not_le, -Nat.not_lt, -Nat.not_le, -List.length_flatMap, lcode_write.c]
  rw [CallX_op (by rfl)]
  refine openg_w rfl rfl (.inl rfl) ?_
  rw [hf]
  obtain ⟨M, hM⟩ : ∃ M, M = (m.set x (some (.cells [.p q 0] false))).set (x + 1) (some (.cells (cL l) false)) := ⟨_, rfl⟩
  rw [← hM]
  have M0 : M x = some (.cells [.p q 0] false) := by rw [hM]; simp +contextual (disch := omega) [Nat.add_assoc, Int.add_assoc, if_pos, if_neg, -Int.not_lt, -Int.not_le, -Nat.not_lt, -Nat.not_le, -List.length_flatMap]
  have M1 : M (x + 1) = some (.cells (cL l) false) := by rw [hM]; simp +contextual (disch := omega) [Nat.add_assoc, Int.add_assoc, if_pos, if_neg, -Int.not_lt, -Int.not_le, -Nat.not_lt, -Nat.not_le, -List.length_flatMap]
  have MK : KeepC m M x := fun j hj cs r e => by rw [hM, Sto.sne _ _ _ _ (by omega), Sto.sne _ _ _ _ (by omega), e]
  refine lcode_write_1.w (o := o) l.kind (by omega) (by omega) M0 (hB.up (by omega) (fun j hj => by rw [hM, Sto.sne _ _ _ _ (by omega), Sto.sne _ _ _ _ (by omega)])) (by omega) ?_
  intro m1 x1 g1 g2 g3
  have c0 := g3 x (by omega) _ _ M0
  have c1 := g3 (x + 1) (by omega) _ _ M1
  have k1 : KeepC m m1 x := MK.trans (x := x) (y := x + 7) g3 (by omega)
  have hlen := ok.len
  by_cases h56 : l.kind = 5 ∨ l.kind = 6
  · rw [if_pos h56] at hn hK
    have hn1 : 0 ≤ l.n ∧ l.n ≤ 10 := by
      unfold namedS at r3
      rcases h56 with h | h <;> rw [h] at r3 <;> simp at r3 <;> omega
    have hna : namedR l.kind > 0 := by unfold namedR; rcases h56 with h | h <;> rw [h] <;> simp
    simp +contextual (disch := omega) [Nat.add_assoc, Int.add_assoc, if_pos, if_neg, -Int.not_lt, -Int.not_le, -Nat.not_lt, -Nat.not_le, -List.length_flatMap, c0, c1, ansK (lcode_named.a _), hna]
    rw [CallX_op (by rfl)]
    refine openg_w rfl rfl (.inl rfl) ?_
    rw [hf]
    refine lcode_write_1.w (o := o ++ digs l.kind.toNat) l.n (by omega) (by omega) c0 (g2.up (by omega) (fun j hj => rfl)) (by rw [List.length_append]; omega) ?_
    intro m2 x2 g4 g5 g6
    have d0 := g6 x (by omega) _ _ c0
    have d1 := g6 (x + 1) (by omega) _ _ c1
    have k2 : KeepC m m2 x := k1.trans g6 (by omega)
    simp +contextual (disch := omega) [Nat.add_assoc, Int.add_assoc, if_pos, if_neg, -Int.not_lt, -Int.not_le, -Nat.not_lt, -Nat.not_le, -List.length_flatMap, d0, d1]
    refine lcode_write_loop l (q := q) (c := x) (o ++ digs l.kind.toNat ++ digs l.n.toNat) (by omega) (fun k hk o {m x K} => ih k hk (ok.kid hk) (d - 1) (r4 k hk) o) (by simp +contextual (disch := omega) [Nat.add_assoc, Int.add_assoc, if_pos, if_neg, -Int.not_lt, -Int.not_le, -Nat.not_lt, -Nat.not_le, -List.length_flatMap]) (by simp +contextual (disch := omega) [Nat.add_assoc, Int.add_assoc, if_pos, if_neg, -Int.not_lt, -Int.not_le, -Nat.not_lt, -Nat.not_le, -List.length_flatMap]) (by simp +contextual (disch := omega) [Nat.add_assoc, Int.add_assoc, if_pos, if_neg, -Int.not_lt, -Int.not_le, -Nat.not_lt, -Nat.not_le, -List.length_flatMap]) (by simp +contextual (disch := omega) [Nat.add_assoc, Int.add_assoc, if_pos, if_neg, -Int.not_lt, -Int.not_le, -Nat.not_lt, -Nat.not_le, -List.length_flatMap]) d0 (by omega) (g5.up (by omega) (fun j hj => rfl)) (by simp only [List.length_append]; omega) ?_
    intro m' x' h1 h2 h3
    refine hK _ _ (by omega) ?_ (k2.trans h3 (by omega))
    simpa only [List.append_assoc] using h2
  · rw [if_neg h56] at hn hK
    have hna : ¬ namedR l.kind > 0 := by unfold namedR; rw [if_neg (by omega), if_neg (by omega)]; omega
    simp +contextual (disch := omega) [Nat.add_assoc, Int.add_assoc, if_pos, if_neg, -Int.not_lt, -Int.not_le, -Nat.not_lt, -Nat.not_le, -List.length_flatMap, c0, c1, ansK (lcode_named.a _), hna]
    simp only [List.length_nil] at hn
    refine lcode_write_loop l (q := q) (c := x) (o ++ digs l.kind.toNat) (by omega) (fun k hk o {m x K} => ih k hk (ok.kid hk) (d - 1) (r4 k hk) o) (by simp +contextual (disch := omega) [Nat.add_assoc, Int.add_assoc, if_pos, if_neg, -Int.not_lt, -Int.not_le, -Nat.not_lt, -Nat.not_le, -List.length_flatMap]) (by simp +contextual (disch := omega) [Nat.add_assoc, Int.add_assoc, if_pos, if_neg, -Int.not_lt, -Int.not_le, -Nat.not_lt, -Nat.not_le, -List.length_flatMap]) (by simp +contextual (disch := omega) [Nat.add_assoc, Int.add_assoc, if_pos, if_neg, -Int.not_lt, -Int.not_le, -Nat.not_lt, -Nat.not_le, -List.length_flatMap]) (by simp +contextual (disch := omega) [Nat.add_assoc, Int.add_assoc, if_pos, if_neg, -Int.not_lt, -Int.not_le, -Nat.not_lt, -Nat.not_le, -List.length_flatMap]) c0 (by omega) (g2.up (by omega) (fun j hj => rfl)) (by simp only [List.length_append]; omega) ?_
    intro m' x' h1 h2 h3
    refine hK _ _ (by omega) ?_ (k1.trans h3 (by omega))
    simpa only [List.append_assoc, List.append_nil] using h2
theorem strings_Builder_String.w {m : Sto} {x q : Nat} {K : CR → Sto → Nat → Prop} (o : List Nat) (ho : o ≠ []) (hB : Bd m q o x) (hn : o.length ≤ 2147483648)
    (hK : ∀ m' x', x ≤ x' → KeepC m m' x → K (.ret (.s (bs o))) m' x') :
    w ctx (envOf [.p q 0]) m x [] none none (RetG ctx strings_Builder_String.c.rs K) strings_Builder_String.c.code := by
  obtain ⟨ad, B, h1, h2, h3, ⟨h4, h5⟩ | ⟨b, b1, b2, rfl, b3⟩⟩ := hB
  · exact absurd h4 ho
  have hol : 0 < o.length := List.length_pos_iff.2 ho
  have hlb : (ofBytes (bs o).data.toList).length = o.length := by rw [ofBytes_len, bs_llen]
  have hx : bytesX (List.take o.length (ofBytes (bs o).data.toList)) = some (bs o).data.toList := by rw [List.take_of_length_le (by omega), bytesX_of]
  have hy : ({ data := (bs o).data.toList.toArray } : ByteArray) = bs o := by simp
  simp +contextual (disch := omega) [Nat.add_assoc, Int.add_assoc, if_pos, if_neg, -Int.not_lt, -Int.not_le, -Nat.not_lt, -Nat.not_le, -List.length_flatMap, strings_Builder_String.c, h1, b3, hlb, hx, hy]
  refine hK _ _ (by omega) ?_
  intro j hj cs r e
  have hb : j ≠ b := fun h => by rw [h, b3] at e; cases e
  rw [Sto.sne _ _ _ _ hb, e]
theorem lcode_Put.a (l : L) (ok : l.Ok) (hlen : RightS l 5 10 = true → (textL l).length ≤ 2147483648) : Ans ctx lcode_Put.n [.ag (cL l)] (if RightS l 5 10 = true then .tu [.s (bs (textL l)), .i .i64 0] else .tu [.s (bs []), .i .i64 1]) := by
  refine ans lcode_Put.f ?_
  have hf : ctx.frz lcode_write.n = false := rfl
  have hs : ctx.frz strings_Builder_String.n = false := rfl
  by_cases hR : RightS l 5 10 = true
  · rw [if_pos hR]
    simp +contextual (disch := omega) [Nat.add_assoc, Int.add_assoc, if_pos, if_neg, -Int.not_lt, -Int.not_le, -Nat.not_lt, -Nat.not_le, -List.length_flatMap, lcode_Put.c, ansK (level_Right.a l ok 5 10), hR]
    rw [CallX_op (by rfl)]
    refine openg_w rfl rfl (.inl rfl) ?_
    rw [hf]
    have hr : ∃ d, rightS l 5 10 d = true := by
      refine ⟨12, ?_⟩
      unfold RightS at hR
      split at hR
      · cases hR
      · simpa using (Bool.and_eq_true _ _ ▸ hR).2
    obtain ⟨d, hd⟩ := hr
    refine lcode_write.w l ok d hd [] (q := 5) ⟨.np, .ns, ?_, .inl rfl, by omega, .inl ⟨rfl, rfl⟩⟩ (by simpa using hlen hR) ?_
    · simp +contextual (disch := omega) [Nat.add_assoc, Int.add_assoc, if_pos, if_neg, -Int.not_lt, -Int.not_le, -Nat.not_lt, -Nat.not_le, -List.length_flatMap]
    intro m' x' g1 g2 g3
    simp +contextual (disch := omega) [Nat.add_assoc, Int.add_assoc, if_pos, if_neg, -Int.not_lt, -Int.not_le, -Nat.not_lt, -Nat.not_le, -List.length_flatMap]
    rw [CallX_op (by rfl)]
    refine openg_w rfl rfl (.inl rfl) ?_
    rw [hs]
    refine strings_Builder_String.w (textL l) (by rw [textL_eq]; simp [digs_ne]) (g2.up (by omega) (fun j hj => rfl)) (hlen hR) ?_
    intro m2 x2 k1 k2
    simp +contextual (disch := omega) [Nat.add_assoc, Int.add_assoc, if_pos, if_neg, -Int.not_lt, -Int.not_le, -Nat.not_lt, -Nat.not_le, -List.length_flatMap]
  · rw [if_neg hR]
    simp +contextual (disch := omega) [Nat.add_assoc, Int.add_assoc, if_pos, if_neg, -Int.not_lt, -Int.not_le, -Nat.not_lt, -Nat.not_le, -List.length_flatMap, lcode_Put.c, ansK (level_Right.a l ok 5 10), hR]
theorem right_small (l : L) : ∀ {d : Int}, rightS l 5 10 d = true → l.kind.toNat < 7 ∧ (l.kind = 5 ∨ l.kind = 6 → l.n.toNat < 10) := by
  intro d h
  have hk := right_kind h
  have r3 := (right_kid h).2.2.1
  refine ⟨by omega, fun h56 => ?_⟩
  unfold namedS at r3
  rcases h56 with h | h <;> rw [h] at r3 <;> simp at r3 <;> omega
theorem digs_one {n : Nat} (h : n < 128) : digs n = [n] := digs_lt h
/-- No more bytes than there can be. -/
theorem textL_len (l : L) : ∀ {d : Nat}, rightS l 5 10 d = true → (textL l).length + 2 ≤ 2 ^ (d + 1) := by
  induction l using L.ind with
  | h l ih =>
    intro d h
    obtain ⟨r1, r2, r3, r4⟩ := right_kid h
    obtain ⟨s1, s2⟩ := right_small l h
    have hk := right_kind h
    obtain ⟨d, rfl⟩ : ∃ k, d = k + 1 := ⟨d - 1, by omega⟩
    have hp : 1 ≤ 2 ^ d := Nat.one_le_two_pow
    have hp1 : 2 ^ (d + 1) = 2 * 2 ^ d := by rw [Nat.pow_succ]; omega
    have hp2 : 2 ^ (d + 1 + 1) = 4 * 2 ^ d := by rw [Nat.pow_succ, hp1]; omega
    have hkid : ∀ k ∈ l.kids, (textL k).length + 2 ≤ 2 ^ (d + 1) := fun k hk => ih k hk (d := d) (by have := r4 k hk; rwa [show ((d + 1 : Nat) : Int) - 1 = (d : Nat) by omega] at this)
    rw [textL_eq, digs_one (by omega)]
    rw [hp2]
    rw [hp1] at hkid
    generalize 2 ^ d = P at *
    generalize l.kind = k at *
    generalize l.n = n at *
    generalize l.kids = ks at *
    match ks, r2, hkid with
    | [], r2, hkid =>
      by_cases h56 : k = 5 ∨ k = 6
      · rw [if_pos h56, digs_one (by have := s2 h56; omega)]; simp; omega
      · rw [if_neg h56]; simp; omega
    | [a], r2, hkid =>
      have ha := hkid a (by simp)
      have : ¬ (k = 5 ∨ k = 6) := fun h => by rcases h with h | h <;> rw [h] at r2 <;> simp [kidsS] at r2
      rw [if_neg this]; simp; omega
    | [a, b], r2, hkid =>
      have ha := hkid a (by simp)
      have hb := hkid b (by simp)
      have : ¬ (k = 5 ∨ k = 6) := fun h => by rcases h with h | h <;> rw [h] at r2 <;> simp [kidsS] at r2
      rw [if_neg this]; simp; omega
    | _ :: _ :: _ :: _, r2, _ =>
      have := kidsS_le k
      simp at r2
      omega
theorem RightS_right {l : L} (h : RightS l 5 10 = true) : rightS l 5 10 12 = true := by
  unfold RightS at h
  split at h
  · cases h
  · simpa using (Bool.and_eq_true _ _ ▸ h).2
theorem RightS_len {l : L} (h : RightS l 5 10 = true) : (textL l).length ≤ 8190 := by
  have := textL_len l (d := 12) (RightS_right h)
  omega
end Pi


set_option linter.unusedSimpArgs false
set_option linter.unusedVariables false
namespace Pi
def rrV : RR → V
  | .ok v a _ => .tu [.ag (cL v), .i .i64 a, .i .i64 0]
  | .bad e => .tu [.ag (cL (.mk 0 0 [])), .i .i64 0, .i .i64 e]
/-- What Get tells. -/
def getLV (l : List Nat) (p : Int) : V := if p < 0 ∨ p > l.length then rrV (.bad 1) else rrV (rdL l 12 p.toNat 0)
theorem ta_yes (z u : V) : taV 87 z (.fc 87 u) true = some (.tu [u, .b true], []) := rfl
theorem ta_no (z : V) : taV 87 z .ni true = some (.tu [z, .b false], []) := rfl
theorem lcode_Get.a (l : List Nat) (p : Int) (hl : Byt l) (hn : l.length ≤ 1000) : Ans ctx lcode_Get.n [.s (bs l), .i .i64 p] (getLV l p) := by
  refine ansg lcode_Get.f ?_
  have hz : V.ag [.i .i64 0, .i .i64 0, .sl [] 0] = .ag (cL (.mk 0 0 [])) := by rw [cL_at]; rfl
  unfold getLV
  by_cases hp1 : p < 0
  · rw [if_pos (.inl hp1)]
    simp +contextual (disch := omega) [Nat.add_assoc, Int.add_assoc, if_pos, if_neg, -Int.not_lt, -Int.not_le, -Nat.not_lt, -Nat.not_le, -List.length_flatMap, lcode_Get.c, hp1, rrV, hz]
  · by_cases hp2 : p > l.length
    · rw [if_pos (.inr hp2)]
      simp +contextual (disch := omega) [Nat.add_assoc, Int.add_assoc, if_pos, if_neg, -Int.not_lt, -Int.not_le, -Nat.not_lt, -Nat.not_le, -List.length_flatMap, lcode_Get.c, hp1, hp2, rrV, hz]
    · rw [if_neg (by omega)]
      obtain ⟨a, rfl⟩ : ∃ a : Nat, p = a := ⟨p.toNat, by omega⟩
      have hp2' : ¬ (a : Int) > l.length := hp2
      have hfl : ctx.frz lcode_reader_level.n = false := rfl
      simp +contextual (disch := omega) [Nat.add_assoc, Int.add_assoc, if_pos, if_neg, -Int.not_lt, -Int.not_le, -Nat.not_lt, -Nat.not_le, -List.length_flatMap, lcode_Get.c, hp1, hp2', Int.toNat_natCast]
      rw [CallX_op (by rfl)]
      refine openg_w rfl rfl (.inl rfl) ?_
      rw [hfl]
      refine lcode_reader_level.w l hl hn 15 12 (by omega) a 0 (by omega) (by simp +contextual (disch := omega) [Nat.add_assoc, Int.add_assoc, if_pos, if_neg, -Int.not_lt, -Int.not_le, -Nat.not_lt, -Nat.not_le, -List.length_flatMap]) (fun j hj => by simp +contextual (disch := omega) [Nat.add_assoc, Int.add_assoc, if_pos, if_neg, -Int.not_lt, -Int.not_le, -Nat.not_lt, -Nat.not_le, -List.length_flatMap]) ?_
      generalize rdL l 12 a 0 = r
      cases r with
      | bad e =>
        intro m' x' a' n' h1 h2 h3 _
        have t0 : m' 0 = some (.cells [.i .i64 0, .i .i64 0, .ns] false) := by rw [h2 0 (by omega) (by omega)]; simp +contextual (disch := omega) [Nat.add_assoc, Int.add_assoc, if_pos, if_neg, -Int.not_lt, -Int.not_le, -Nat.not_lt, -Nat.not_le, -List.length_flatMap]
        have t1 : m' 1 = some (.cells [.i .i64 0] false) := by rw [h2 1 (by omega) (by omega)]; simp +contextual (disch := omega) [Nat.add_assoc, Int.add_assoc, if_pos, if_neg, -Int.not_lt, -Int.not_le, -Nat.not_lt, -Nat.not_le, -List.length_flatMap]
        have t2 : m' 2 = some (.cells [.i .i64 0] false) := by rw [h2 2 (by omega) (by omega)]; simp +contextual (disch := omega) [Nat.add_assoc, Int.add_assoc, if_pos, if_neg, -Int.not_lt, -Int.not_le, -Nat.not_lt, -Nat.not_le, -List.length_flatMap]
        simp +contextual (disch := omega) [Nat.add_assoc, Int.add_assoc, if_pos, if_neg, -Int.not_lt, -Int.not_le, -Nat.not_lt, -Nat.not_le, -List.length_flatMap]
        refine df_w lcode_Get_1.f ?_
        simp +contextual (disch := omega) [Nat.add_assoc, Int.add_assoc, if_pos, if_neg, -Int.not_lt, -Int.not_le, -Nat.not_lt, -Nat.not_le, -List.length_flatMap, lcode_Get_1.c, ta_yes, ta_no, stopV, t0, t1, t2, rrV, hz]
      | ok v a' n' =>
        intro cs m' x' h1 h2 h3 _ h5 _ h7
        have t0 : m' 0 = some (.cells [.i .i64 0, .i .i64 0, .ns] false) := by rw [h2 0 (by omega) (by omega)]; simp +contextual (disch := omega) [Nat.add_assoc, Int.add_assoc, if_pos, if_neg, -Int.not_lt, -Int.not_le, -Nat.not_lt, -Nat.not_le, -List.length_flatMap]
        have t1 : m' 1 = some (.cells [.i .i64 0] false) := by rw [h2 1 (by omega) (by omega)]; simp +contextual (disch := omega) [Nat.add_assoc, Int.add_assoc, if_pos, if_neg, -Int.not_lt, -Int.not_le, -Nat.not_lt, -Nat.not_le, -List.length_flatMap]
        have t2 : m' 2 = some (.cells [.i .i64 0] false) := by rw [h2 2 (by omega) (by omega)]; simp +contextual (disch := omega) [Nat.add_assoc, Int.add_assoc, if_pos, if_neg, -Int.not_lt, -Int.not_le, -Nat.not_lt, -Nat.not_le, -List.length_flatMap]
        simp +contextual (disch := omega) [Nat.add_assoc, Int.add_assoc, if_pos, if_neg, -Int.not_lt, -Int.not_le, -Nat.not_lt, -Nat.not_le, -List.length_flatMap, t0, t1, t2, h3]
        refine df_w lcode_Get_1.f ?_
        have ht : cs.take 3 = cs := List.take_of_length_le (by omega)
        simp +contextual (disch := omega) [Nat.add_assoc, Int.add_assoc, if_pos, if_neg, -Int.not_lt, -Int.not_le, -Nat.not_lt, -Nat.not_le, -List.length_flatMap, lcode_Get_1.c, ta_yes, ta_no, t0, t1, t2, rrV, ht]
        generalize hM : Sto.set _ (x' + 13) _ = M
        obtain ⟨ids, e⟩ := h7 M (fun j q1 q2 => by rw [← hM]; simp +contextual (disch := omega) [Nat.add_assoc, Int.add_assoc, if_pos, if_neg, -Int.not_lt, -Int.not_le, -Nat.not_lt, -Nat.not_le, -List.length_flatMap]) 24 (by omega)
        simp +contextual (disch := omega) [Nat.add_assoc, Int.add_assoc, if_pos, if_neg, -Int.not_lt, -Int.not_le, -Nat.not_lt, -Nat.not_le, -List.length_flatMap, e]
end Pi


set_option linter.unusedSimpArgs false
set_option linter.unusedVariables false
namespace Pi
end Pi


set_option linter.unusedSimpArgs false
set_option linter.unusedVariables false
namespace Pi
/-! What Get tells of what Put writes, and back. -/
theorem getR_ok : ∀ (l : List Nat) (k a n c : Nat), Byt l → getR l k a = (n, c, 0) → ∃ v, n = a + v * 128 ^ k ∧ k < c ∧ c - k ≤ l.length ∧ l.take (c - k) = digs v ∧ (k > 0 → v ≠ 0) ∧ n ≤ 1099511627776
  | [], k, a, n, c, hl, h => by simp [getR] at h
  | b :: r, k, a, n, c, hl, h => by
    rw [getR] at h
    have hb := hl b (by simp)
    split at h
    · simp at h
    · rename_i h1
      split at h
      · rename_i h2
        split at h
        · simp at h
        · rename_i h3
          simp only [Prod.mk.injEq, and_true] at h
          obtain ⟨rfl, rfl⟩ := h
          refine ⟨b, rfl, by omega, by simp, ?_, by omega, by omega⟩
          rw [digs_lt h2]
          simp
      · rename_i h2
        obtain ⟨v, q1, q2, q3, q4, q5, q6⟩ := getR_ok r (k + 1) _ n c (fun x hx => hl x (by simp [hx])) h
        refine ⟨b % 128 + 128 * v, ?_, by omega, ?_, ?_, ?_, q6⟩
        · rw [q1, Nat.pow_succ, Nat.add_mul, ← Nat.add_assoc, Nat.mul_comm 128 v, Nat.mul_assoc, Nat.mul_comm 128 (128 ^ k)]
        · simp only [List.length_cons]; omega
        · have hv := q5 (by omega)
          rw [digs_ge (by omega), show (b % 128 + 128 * v) % 128 + 128 = b by omega, show (b % 128 + 128 * v) / 128 = v by omega, ← q4, show c - k = (c - (k + 1)) + 1 by omega, List.take_succ_cons]
        · intro _
          have := q5 (by omega)
          omega
end Pi


set_option linter.unusedSimpArgs false
set_option linter.unusedVariables false
namespace Pi
end Pi


set_option linter.unusedSimpArgs false
set_option linter.unusedVariables false
namespace Pi
theorem RR.bind_ok {r : RR} {f : L → Nat → Nat → RR} {v : L} {a n : Nat} (h : r.bind f = .ok v a n) : ∃ v' a' n', r = .ok v' a' n' ∧ f v' a' n' = .ok v a n := by
  cases r with
  | bad e => cases h
  | ok v' a' n' => exact ⟨v', a', n', rfl, h⟩
theorem rd_ok (l : List Nat) : ∀ (d a n : Nat) (v : L) (a' n' : Nat), rdL l d a n = .ok v a' n' → v.Ok
  | 0, _, _, _, _, _, h => by simp [rdL] at h
  | d + 1, a, n, v, a', n', h => by
    have nil : ∀ k u : Nat, k ≤ 10 → u ≤ 10 → (L.mk k u []).Ok := fun k u h1 h2 => .mk (by simp) (by omega) (by omega) (fun x hx => by cases hx)
    unfold rdL at h
    split at h
    · cases h
    split at h
    · cases h
    split at h
    · cases h
      exact nil 1 0 (by omega) (by omega)
    split at h
    · rename_i hk
      split at h
      · cases h
      generalize hg : (if (getS l a).1 = 5 then 5 else 10 : Nat) = g at h
      have hg10 : g ≤ 10 := by rw [← hg]; split <;> omega
      split at h
      · cases h
      rename_i hu
      cases h
      exact nil _ _ (by omega) (by omega)
    split at h
    · obtain ⟨v1, a1, n1, h1, h2⟩ := RR.bind_ok h
      cases h2
      have := rd_ok l d _ _ _ _ _ h1
      exact .mk (by simp) (by omega) (by omega) (fun x hx => by rw [List.mem_singleton.1 hx]; exact this)
    split at h
    · rename_i hk
      obtain ⟨v1, a1, n1, h1, h2⟩ := RR.bind_ok h
      obtain ⟨v2, a2, n2, h3, h4⟩ := RR.bind_ok h2
      cases h4
      have k1 := rd_ok l d _ _ _ _ _ h1
      have k2 := rd_ok l d _ _ _ _ _ h3
      refine .mk (by simp) (by omega) (by omega) (fun x hx => ?_)
      rcases List.mem_cons.1 hx with rfl | hx
      · exact k1
      · rw [List.mem_singleton.1 hx]; exact k2
    · cases h
end Pi


set_option linter.unusedSimpArgs false
set_option linter.unusedVariables false
namespace Pi
end Pi


set_option linter.unusedSimpArgs false
set_option linter.unusedVariables false
namespace Pi
end Pi


set_option linter.unusedSimpArgs false
set_option linter.unusedVariables false
namespace Pi
end Pi


set_option linter.unusedSimpArgs false
set_option linter.unusedVariables false
namespace Pi
/-! Made levels are right; what is more. -/
mutual
def szL (l : L) : Nat := match l with | .mk _ _ ks => 1 + szLs ks
def szLs (l : List L) : Nat := match l with | [] => 0 | a :: r => szL a + szLs r
end
theorem nodesL_le (ks : List L) (h : ∀ k ∈ ks, ∀ m, nodesS k m ≤ szL k) : ∀ (m n : Int), nodesL ks m n ≤ n + szLs ks := by
  induction ks with
  | nil => intro m n; simp [nodesL, szLs]
  | cons k r ih =>
    intro m n
    simp only [nodesL, szLs]
    have h1 := h k (by simp)
    have h2 := ih (fun k hk => h k (by simp [hk]))
    split
    · have := h1 (m - n)
      have := h2 m (n + nodesS k (m - n))
      omega
    · have := h2 m n
      omega
theorem nodesS_le (l : L) : ∀ m, nodesS l m ≤ szL l := by
  induction l using L.ind with
  | h l ih =>
    intro m
    cases l with
    | mk k n ks =>
      have := nodesL_le ks ih m 1
      simp only [nodesS, szL]
      omega
end Pi


set_option linter.unusedSimpArgs false
set_option linter.unusedVariables false
namespace Pi
theorem RightS_of {l : L} {p q : Nat} (hp : p ≤ 5) (hq : q ≤ 10) (hz : szL l ≤ 100) (h : rightS l p q 12 = true) : RightS l p q = true := by
  unfold RightS
  have := nodesS_le l 101
  rw [if_neg (by omega)]
  simp [h]
  omega
end Pi


set_option linter.unusedSimpArgs false
set_option linter.unusedVariables false
namespace Pi
end Pi


set_option linter.unusedSimpArgs false
set_option linter.unusedVariables false
namespace Pi
theorem textL_1 : textL (.mk 1 0 []) = [1] := by
  rw [textL_eq]
  show digs 1 ++ (if (1 : Int) = 5 ∨ (1 : Int) = 6 then digs 0 else []) ++ [] = _
  rw [if_neg (by omega), digs_one (by omega)]
  rfl
theorem textL_5 (m : Nat) (h : m < 128) : textL (.mk 5 m []) = [5, m] := by
  rw [textL_eq]
  show digs 5 ++ (if (5 : Int) = 5 ∨ (5 : Int) = 6 then digs ((m : Int).toNat) else []) ++ [] = _
  rw [if_pos (.inl rfl), Int.toNat_natCast, digs_one (by omega), digs_one (by omega)]
  rfl
theorem textL_6 (m : Nat) (h : m < 128) : textL (.mk 6 m []) = [6, m] := by
  rw [textL_eq]
  show digs 6 ++ (if (6 : Int) = 5 ∨ (6 : Int) = 6 then digs ((m : Int).toNat) else []) ++ [] = _
  rw [if_pos (.inr rfl), Int.toNat_natCast, digs_one (by omega), digs_one (by omega)]
  rfl
theorem textL_2 (v : L) : textL (.mk 2 0 [v]) = 2 :: textL v := by
  rw [textL_eq]
  show digs 2 ++ (if (2 : Int) = 5 ∨ (2 : Int) = 6 then digs 0 else []) ++ [v].flatMap textL = _
  rw [if_neg (by omega), digs_one (by omega)]
  simp
theorem textL_3 (v u : L) : textL (.mk 3 0 [v, u]) = 3 :: (textL v ++ textL u) := by
  rw [textL_eq]
  show digs 3 ++ (if (3 : Int) = 5 ∨ (3 : Int) = 6 then digs 0 else []) ++ [v, u].flatMap textL = _
  rw [if_neg (by omega), digs_one (by omega)]
  simp
theorem textL_4 (v u : L) : textL (.mk 4 0 [v, u]) = 4 :: (textL v ++ textL u) := by
  rw [textL_eq]
  show digs 4 ++ (if (4 : Int) = 5 ∨ (4 : Int) = 6 then digs 0 else []) ++ [v, u].flatMap textL = _
  rw [if_neg (by omega), digs_one (by omega)]
  simp
theorem getS_told {s : List Nat} {a : Nat} (hb : Byt s) (h : (getS s a).2.2 = 0) : a < (getS s a).2.1 ∧ (getS s a).2.1 ≤ s.length ∧ s.drop a = digs (getS s a).1 ++ s.drop (getS s a).2.1 := by
  by_cases h0 : (a : Int) < 0 ∨ (a : Int) > s.length
  · have hg : getS s a = (0, 0, 1) := by unfold getS; rw [if_pos h0]
    rw [hg] at h
    cases h
  · simp only [getS, if_neg h0, Int.toNat_natCast] at h ⊢
    generalize hr : getR (s.drop a) 0 0 = r at h ⊢
    obtain ⟨n, c, e⟩ := r
    simp only at h
    subst h
    obtain ⟨v, q1, q2, q3, q4, q5, q6⟩ := getR_ok _ _ _ _ _ (fun x hx => hb x (List.mem_of_mem_drop hx)) hr
    simp only [if_true]
    rw [Nat.pow_zero, Nat.mul_one, Nat.zero_add] at q1
    subst q1
    rw [List.length_drop] at q3
    refine ⟨by omega, by omega, ?_⟩
    rw [Nat.sub_zero] at q4
    rw [← q4, ← List.drop_drop, List.take_append_drop]
theorem RR.bind_bad {r : RR} {f : L → Nat → Nat → RR} {e : Nat} (h : r.bind f = .bad e) : r = .bad e ∨ ∃ v a n, r = .ok v a n ∧ f v a n = .bad e := by
  cases r with
  | bad e' => exact .inl h
  | ok v' a' n' => exact .inr ⟨v', a', n', rfl, h⟩
theorem rd_bad (s : List Nat) : ∀ (d a n e : Nat), rdL s d a n = .bad e → e ≠ 0
  | 0, a, n, e, h => by simp [rdL] at h; omega
  | d + 1, a, n, e, h => by
    unfold rdL at h
    split at h
    · cases h; omega
    split at h
    · rename_i h1; cases h; exact h1
    split at h
    · cases h
    split at h
    · split at h
      · rename_i h1; cases h; exact h1
      generalize (if (getS s a).1 = 5 then 5 else 10) = q at h
      split at h
      · cases h; omega
      · cases h
    split at h
    · rcases RR.bind_bad h with h | ⟨v, a2, n2, h1, h2⟩
      · exact rd_bad s d _ _ e h
      · cases h2
    split at h
    · rcases RR.bind_bad h with h | ⟨v, a2, n2, h1, h2⟩
      · exact rd_bad s d _ _ e h
      · rcases RR.bind_bad h2 with h | ⟨v, a2, n2, h1, h2⟩
        · exact rd_bad s d _ _ e h
        · cases h2
    · cases h; omega
theorem rightS_1 (k : Int) (n : Nat) (d : Nat) (h : (k = 1 ∧ n = 0) ∨ (k = 5 ∧ n < 5) ∨ (k = 6 ∧ n < 10)) : rightS (.mk k n []) 5 10 ((d + 1 : Nat) : Int) = true := by
  rw [rightS_eq]
  show (decide (0 < ((d + 1 : Nat) : Int)) && decide (((0 : Nat) : Int) = kidsS k) && namedS (.mk k n []) 5 10 && true) = true
  have : namedS (.mk k n []) 5 10 = true := by
    unfold namedS
    show (if k = 5 then decide (0 ≤ (n : Int)) && decide ((n : Int) < 5) else if k = 6 then decide (0 ≤ (n : Int)) && decide ((n : Int) < 10) else decide ((n : Int) = 0)) = true
    rcases h with ⟨rfl, rfl⟩ | ⟨rfl, h⟩ | ⟨rfl, h⟩ <;> simp <;> omega
  rw [this]
  rcases h with ⟨rfl, _⟩ | ⟨rfl, _⟩ | ⟨rfl, _⟩ <;> simp [kidsS] <;> omega
theorem rightS_2 (k : Int) (ks : List L) (d : Nat) (h : (k = 2 ∧ ks.length = 1) ∨ ((k = 3 ∨ k = 4) ∧ ks.length = 2)) (hk : ∀ x ∈ ks, rightS x 5 10 d = true) : rightS (.mk k 0 ks) 5 10 ((d + 1 : Nat) : Int) = true := by
  rw [rightS_eq]
  have hany : (ks.any fun k => !(rightS k 5 10 (((d + 1 : Nat) : Int) - 1))) = false := by
    rw [List.any_eq_false]
    intro x hx
    rw [show ((d + 1 : Nat) : Int) - 1 = (d : Nat) by omega, hk x hx]
    simp
  show (decide (0 < ((d + 1 : Nat) : Int)) && decide ((ks.length : Int) = kidsS k) && namedS (.mk k 0 ks) 5 10 && !(ks.any fun k => !(rightS k 5 10 (((d + 1 : Nat) : Int) - 1)))) = true
  rw [hany]
  have : namedS (.mk k 0 ks) 5 10 = true := by
    unfold namedS
    show (if k = 5 then decide (0 ≤ (0 : Int)) && decide ((0 : Int) < 5) else if k = 6 then decide (0 ≤ (0 : Int)) && decide ((0 : Int) < 10) else decide ((0 : Int) = 0)) = true
    rcases h with ⟨rfl, _⟩ | ⟨rfl | rfl, _⟩ <;> simp
  rw [this]
  rcases h with ⟨rfl, h⟩ | ⟨rfl | rfl, h⟩ <;> simp [kidsS, h] <;> omega
/-- What is read is right, and stands there as it is written. -/
theorem rd_read (s : List Nat) (hb : Byt s) : ∀ (d a n : Nat) (v : L) (a' n' : Nat), a ≤ s.length → rdL s d a n = .ok v a' n' → rightS v 5 10 d = true ∧ a < a' ∧ a' ≤ s.length ∧ s.drop a = textL v ++ s.drop a' ∧ n' = n + szL v ∧ n' ≤ 100
  | 0, a, n, v, a', n', _, h => by simp [rdL] at h
  | d + 1, a, n, v, a', n', ha, h => by
    unfold rdL at h
    split at h
    · cases h
    rename_i hn
    split at h
    · cases h
    rename_i he
    obtain ⟨g1, g2, g3⟩ := getS_told hb (by omega : (getS s a).2.2 = 0)
    generalize hr : getS s a = r at h g1 g2 g3
    obtain ⟨k, a1, e1⟩ := r
    simp only at h g1 g2 g3
    split at h
    · rename_i hk
      subst hk
      cases h
      rw [digs_one (by omega)] at g3
      refine ⟨rightS_1 1 0 d (.inl ⟨rfl, rfl⟩), g1, g2, by rw [textL_1, g3], by simp [szL, szLs], by omega⟩
    split at h
    · rename_i hk
      split at h
      · cases h
      rename_i he2
      obtain ⟨q, hq⟩ : ∃ q, q = (if k = 5 then 5 else 10) := ⟨_, rfl⟩
      rw [← hq] at h
      split at h
      · cases h
      rename_i hm
      rw [hq] at hm
      obtain ⟨k1, k2, k3⟩ := getS_told hb (by omega : (getS s a1).2.2 = 0)
      generalize hr2 : getS s a1 = r2 at h k1 k2 k3 hm
      obtain ⟨m, a2, e2⟩ := r2
      simp only at h k1 k2 k3 hm
      cases h
      rcases hk with rfl | rfl
      · rw [if_pos rfl] at hm
        rw [digs_one (by omega)] at g3 k3
        refine ⟨rightS_1 5 m d (.inr (.inl ⟨rfl, by omega⟩)), by omega, k2, ?_, by simp [szL, szLs], by omega⟩
        rw [show ((5 : Nat) : Int) = 5 from rfl, textL_5 m (by omega), g3, k3]
        rfl
      · rw [if_neg (by omega)] at hm
        rw [digs_one (by omega)] at g3 k3
        refine ⟨rightS_1 6 m d (.inr (.inr ⟨rfl, by omega⟩)), by omega, k2, ?_, by simp [szL, szLs], by omega⟩
        rw [show ((6 : Nat) : Int) = 6 from rfl, textL_6 m (by omega), g3, k3]
        rfl
    split at h
    · rename_i hk
      subst hk
      obtain ⟨v1, b1, m1, h1, h2⟩ := RR.bind_ok h
      cases h2
      obtain ⟨i1, i2, i3, i4, i5, i6⟩ := rd_read s hb d _ _ _ _ _ (by omega) h1
      rw [digs_one (by omega)] at g3
      refine ⟨rightS_2 2 [v1] d (.inl ⟨rfl, rfl⟩) (by simpa using i1), by omega, i3, ?_, by simp [szL, szLs]; omega, i6⟩
      rw [textL_2, g3, i4]
      rfl
    split at h
    · rename_i hk
      obtain ⟨v1, b1, m1, h1, h2⟩ := RR.bind_ok h
      obtain ⟨v2, b2, m2, h3, h4⟩ := RR.bind_ok h2
      cases h4
      obtain ⟨i1, i2, i3, i4, i5, i6⟩ := rd_read s hb d _ _ _ _ _ (by omega) h1
      obtain ⟨j1, j2, j3, j4, j5, j6⟩ := rd_read s hb d _ _ _ _ _ i3 h3
      rcases hk with rfl | rfl
      · rw [digs_one (by omega)] at g3
        refine ⟨rightS_2 3 [v1, v2] d (.inr ⟨.inl rfl, rfl⟩) (by simp [i1, j1]), by omega, j3, ?_, by simp [szL, szLs]; omega, j6⟩
        rw [show ((3 : Nat) : Int) = 3 from rfl, textL_3, g3, i4, j4]
        simp
      · rw [digs_one (by omega)] at g3
        refine ⟨rightS_2 4 [v1, v2] d (.inr ⟨.inr rfl, rfl⟩) (by simp [i1, j1]), by omega, j3, ?_, by simp [szL, szLs]; omega, j6⟩
        rw [show ((4 : Nat) : Int) = 4 from rfl, textL_4, g3, i4, j4]
        simp
    · cases h
end Pi


set_option linter.unusedSimpArgs false
set_option linter.unusedVariables false
namespace Pi
set_option maxHeartbeats 1000000 in
theorem once_tail (o : List Nat) (ho : Byt o) (hn : o.length ≤ 300) : (∃ v, ∃ at' : Nat, Ans ctx lcode_Get.n [.s (bs o), .i .i64 0] (.tu [.ag (cL v), .i .i64 at', .i .i64 0]) ∧ Ans ctx lcode_Put.n [.ag (cL v)] (.tu [.s (bs (o.take at')), .i .i64 0]) ∧ 1 ≤ at' ∧ at' ≤ o.length) ∨
    ∃ e : Nat, e ≠ 0 ∧ Ans ctx lcode_Get.n [.s (bs o), .i .i64 0] (.tu [.ag (cL (.mk 0 0 [])), .i .i64 0, .i .i64 e]) := by
  have g := lcode_Get.a o 0 ho (by omega)
  have hg : getLV o 0 = rrV (rdL o 12 0 0) := by unfold getLV; rw [if_neg (by omega)]; rfl
  rw [hg] at g
  cases hr : rdL o 12 0 0 with
  | bad e =>
    rw [hr] at g
    exact .inr ⟨e, rd_bad o _ _ _ _ hr, g⟩
  | ok v a n =>
    rw [hr] at g
    obtain ⟨r1, r2, r3, r4, r5, r6⟩ := rd_read o ho 12 0 0 v a n (by omega) hr
    have hR : RightS v 5 10 = true := RightS_of (p := 5) (q := 10) (by omega) (by omega) (by omega) r1
    have p1 := lcode_Put.a v (rd_ok o 12 0 0 v a n hr) (fun h => by have := RightS_len h; omega)
    rw [if_pos hR] at p1
    rw [List.drop_zero] at r4
    have hl := congrArg List.length r4
    rw [List.length_append, List.length_drop] at hl
    have ht : o.take a = textL v := by rw [r4]; exact List.take_left' (by omega)
    rw [← ht] at p1
    exact .inl ⟨v, a, g, p1, by omega, r3⟩
set_option maxHeartbeats 2000000 in
set_option maxRecDepth 10000 in
theorem law03_LcodeOnce.a (t : ByteArray) (l : List Nat) (hl : l.length ≤ 9223372036854775807) (hb0 : Byt l) (small : Bool) : Ans ctx law03_LcodeOnce.n [.s t, sV cU l, .b small] (.b true) := by
  obtain ⟨s, rfl, hs⟩ := bs_of t
  refine ans law03_LcodeOnce.f ?_
  by_cases h : small = false ∧ s.length ≤ 300
  · obtain ⟨rfl, h2⟩ := h
    have h3 : ¬ (s.length : Int) > 300 := by omega
    rcases once_tail s hs h2 with ⟨v, a, q1, q2, q3, q4⟩ | ⟨e, q1, q2⟩
    · have ht : (cL v).take 3 = cL v := List.take_of_length_le (by rw [cL_len]; omega)
      simp +contextual (disch := omega) [Nat.add_assoc, Int.add_assoc, if_pos, if_neg, -Int.not_lt, -Int.not_le, -Nat.not_lt, -Nat.not_le, -List.length_flatMap, law03_LcodeOnce.c, h3, ansK q1, ansK q2, ht]
    · simp +contextual (disch := omega) [Nat.add_assoc, Int.add_assoc, if_pos, if_neg, -Int.not_lt, -Int.not_le, -Nat.not_lt, -Nat.not_le, -List.length_flatMap, law03_LcodeOnce.c, h3, ansK q2]
  · have hs2 : small = true ∨ (small = false ∧ (s.length : Int) > 300) := by
      cases small with
      | true => exact .inl rfl
      | false => exact .inr ⟨rfl, by simp at h; omega⟩
    rcases hs2 with rfl | ⟨rfl, h3⟩
    · simp +contextual (disch := omega) [Nat.add_assoc, Int.add_assoc, if_pos, if_neg, -Int.not_lt, -Int.not_le, -Nat.not_lt, -Nat.not_le, -List.length_flatMap, law03_LcodeOnce.c]
      refine while_w (fun k e m x => ∃ (i : Nat) (o : List Nat), e 1 = sV cU l ∧ e 0 = .s (bs o) ∧ e 8 = .i .i64 i ∧ e 7 = .b true ∧ k = 30 - i ∧ i ≤ 30 ∧ o.length = i ∧ Byt o) 30 ?_ ?_
      · exact ⟨0, [], by simp +contextual (disch := omega) [Nat.add_assoc, Int.add_assoc, if_pos, if_neg, -Int.not_lt, -Int.not_le, -Nat.not_lt, -Nat.not_le, -List.length_flatMap, Byt.nil]⟩
      · rintro k e m x ⟨i, o, g1, g2, g3, g7, rfl, g4, g5, g6⟩
        by_cases hi : i < l.length ∧ i < 30
        · obtain ⟨hi1, hi2⟩ := hi
          generalize hb : l[i] = b
          have hb1 := hb0.at hi1
          rw [hb] at hb1
          simp +contextual (disch := omega) [Nat.add_assoc, Int.add_assoc, if_pos, if_neg, -Int.not_lt, -Int.not_le, -Nat.not_lt, -Nat.not_le, -List.length_flatMap, law03_LcodeOnce.b1, g1, g2, g3, g7, hi1, hb, Int.tmod_eq_emod_of_nonneg]
          exact ⟨30 - (i + 1), by omega, i + 1, _, rfl, by omega, rfl, by omega, by simp; omega, g6.app (Byt.cons (by omega) .nil)⟩
        · rcases once_tail o g6 (by omega) with ⟨v, a, q1, q2, q3, q4⟩ | ⟨er, q1, q2⟩
          · have ht : (cL v).take 3 = cL v := List.take_of_length_le (by rw [cL_len]; omega)
            simp +contextual (disch := omega) [Nat.add_assoc, Int.add_assoc, if_pos, if_neg, -Int.not_lt, -Int.not_le, -Nat.not_lt, -Nat.not_le, -List.length_flatMap, law03_LcodeOnce.b1, g1, g2, g3, g7, ansK q1, ansK q2, ht]
          · simp +contextual (disch := omega) [Nat.add_assoc, Int.add_assoc, if_pos, if_neg, -Int.not_lt, -Int.not_le, -Nat.not_lt, -Nat.not_le, -List.length_flatMap, law03_LcodeOnce.b1, g1, g2, g3, g7, ansK q2]
    · simp +contextual (disch := omega) [Nat.add_assoc, Int.add_assoc, if_pos, if_neg, -Int.not_lt, -Int.not_le, -Nat.not_lt, -Nat.not_le, -List.length_flatMap, law03_LcodeOnce.c, h3]
      refine while_w (fun k e m x => ∃ (i : Nat) (o : List Nat), e 1 = sV cU l ∧ e 0 = .s (bs o) ∧ e 8 = .i .i64 i ∧ e 7 = .b true ∧ k = 30 - i ∧ i ≤ 30 ∧ o.length = i ∧ Byt o) 30 ?_ ?_
      · exact ⟨0, [], by simp +contextual (disch := omega) [Nat.add_assoc, Int.add_assoc, if_pos, if_neg, -Int.not_lt, -Int.not_le, -Nat.not_lt, -Nat.not_le, -List.length_flatMap, Byt.nil]⟩
      · rintro k e m x ⟨i, o, g1, g2, g3, g7, rfl, g4, g5, g6⟩
        by_cases hi : i < l.length ∧ i < 30
        · obtain ⟨hi1, hi2⟩ := hi
          generalize hb : l[i] = b
          have hb1 := hb0.at hi1
          rw [hb] at hb1
          simp +contextual (disch := omega) [Nat.add_assoc, Int.add_assoc, if_pos, if_neg, -Int.not_lt, -Int.not_le, -Nat.not_lt, -Nat.not_le, -List.length_flatMap, law03_LcodeOnce.b1, g1, g2, g3, g7, hi1, hb, Int.tmod_eq_emod_of_nonneg]
          exact ⟨30 - (i + 1), by omega, i + 1, _, rfl, by omega, rfl, by omega, by simp; omega, g6.app (Byt.cons (by omega) .nil)⟩
        · rcases once_tail o g6 (by omega) with ⟨v, a, q1, q2, q3, q4⟩ | ⟨er, q1, q2⟩
          · have ht : (cL v).take 3 = cL v := List.take_of_length_le (by rw [cL_len]; omega)
            simp +contextual (disch := omega) [Nat.add_assoc, Int.add_assoc, if_pos, if_neg, -Int.not_lt, -Int.not_le, -Nat.not_lt, -Nat.not_le, -List.length_flatMap, law03_LcodeOnce.b1, g1, g2, g3, g7, ansK q1, ansK q2, ht]
          · simp +contextual (disch := omega) [Nat.add_assoc, Int.add_assoc, if_pos, if_neg, -Int.not_lt, -Int.not_le, -Nat.not_lt, -Nat.not_le, -List.length_flatMap, law03_LcodeOnce.b1, g1, g2, g3, g7, ansK q2]
end Pi

