/- Contracts: levels as bytes (layer 3): the writer. -/
import Derived.Test.YtbkkigmlkafeiaaC02a
set_option linter.unusedSimpArgs false
set_option linter.unusedVariables false
namespace Pi
mutual
/-- A right level's bytes. -/
def textL : L → List Nat
  | .mk k n ks => digs k.toNat ++ (if k = 5 ∨ k = 6 then digs n.toNat else []) ++ textLs ks
def textLs : List L → List Nat
  | [] => []
  | k :: r => textL k ++ textLs r
end
theorem textLs_eq (ks : List L) : textLs ks = ks.flatMap textL := by
  induction ks with
  | nil => rfl
  | cons k r ih => simp [textLs, ih]
theorem textL_eq (l : L) : textL l = digs l.kind.toNat ++ (if l.kind = 5 ∨ l.kind = 6 then digs l.n.toNat else []) ++ l.kids.flatMap textL := by
  cases l with
  | mk k n ks => simp only [textL, textLs_eq]; rfl
theorem digs_ne (n : Nat) : digs n ≠ [] := by
  unfold digs
  split <;> simp
/-- A builder that holds a text. -/
def Bd (T : Nat) (m : Sto) (q : Nat) (o : List Nat) (x : Nat) : Prop := ∃ ad B, m q = some (.tc T [ad, B]) ∧ (ad = .np ∨ ad = .p q 0) ∧ q < x ∧ ((o = [] ∧ B = .ns) ∨ ∃ b, b < x ∧ b ≠ q ∧ B = .ms b 0 o.length 1 ∧ m b = some (.tc 5 (ofBytes (bs o).data.toList)))
/-- What was no builder's is as it was. -/
def KeepC (m m' : Sto) (x : Nat) : Prop := ∀ j, j < x → ∀ cs r, m j = some (.cells cs r) → m' j = some (.cells cs r)
theorem KeepC.refl (m : Sto) (x : Nat) : KeepC m m x := fun _ _ _ _ h => h
theorem KeepC.trans {m m' m2 : Sto} {x y : Nat} (h : KeepC m m' x) (k : KeepC m' m2 y) (hx : x ≤ y) : KeepC m m2 x := fun j hj cs r e => k j (by omega) cs r (h j hj cs r e)
theorem Bd.up {T : Nat} {m m' : Sto} {q x x' : Nat} {o : List Nat} (h : Bd T m q o x) (hx : x ≤ x') (hm : ∀ j, j < x → m' j = m j) : Bd T m' q o x' := by
  obtain ⟨ad, B, h1, h2, h3, h4⟩ := h
  refine ⟨ad, B, by rw [hm q h3, h1], h2, by omega, ?_⟩
  rcases h4 with h4 | ⟨b, b1, b2, b3, b4⟩
  · exact .inl h4
  · exact .inr ⟨b, by omega, b2, b3, by rw [hm b b1, b4]⟩
theorem ofBytes_app (a b : List UInt8) : ofBytes (a ++ b) = ofBytes a ++ ofBytes b := by simp [ofBytes]
theorem ofBytes_len (a : List UInt8) : (ofBytes a).length = a.length := by simp [ofBytes]
theorem bs_list (a b : List Nat) : (bs (a ++ b)).data.toList = (bs a).data.toList ++ (bs b).data.toList := by simp [bs]
theorem bs_llen (a : List Nat) : (bs a).data.toList.length = a.length := by simp [bs]
theorem strings_Builder_copyCheck.w {T : Nat} (hT : List.contains [71,72,73,74] T = true) {m : Sto} {x q : Nat} {K : CR → Sto → Nat → Prop} {ad B : V} (hm : m q = some (.tc T [ad, B])) (ha : ad = .np ∨ ad = .p q 0)
    (hK : ∀ m' x', x ≤ x' → m' q = some (.tc T [.p q 0, B]) → (∀ j, j ≠ q → m' j = m j) → K (.ret (.tu [])) m' x') :
    w ctx (envOf [.p q 0]) m x [] none none (RetG ctx strings_Builder_copyCheck.c.rs K) strings_Builder_copyCheck.c.code := by
  simp at hT
  rcases ha with rfl | rfl
  · simp +contextual (disch := omega) [Nat.add_assoc, Int.add_assoc, if_pos, if_neg, -Int.not_lt, -Int.not_le, -Nat.not_lt, -Nat.not_le, -List.length_flatMap, strings_Builder_copyCheck.c, hm, hT]
    exact hK _ _ (by omega) (Sto.seq _ _ _) (fun j hj => Sto.sne _ _ _ _ hj)
  · simp +contextual (disch := omega) [Nat.add_assoc, Int.add_assoc, if_pos, if_neg, -Int.not_lt, -Int.not_le, -Nat.not_lt, -Nat.not_le, -List.length_flatMap, strings_Builder_copyCheck.c, hm]
    exact hK _ _ (by omega) hm (fun j hj => rfl)
theorem strings_Builder_WriteString.w {T : Nat} (hT : List.contains [71,72,73,74] T = true) {m : Sto} {x q : Nat} {K : CR → Sto → Nat → Prop} {o : List Nat} (t : List Nat) (ht : t ≠ []) (hB : Bd T m q o x) (hn : o.length + t.length ≤ 2147483648)
    (hK : ∀ m' x', x ≤ x' → Bd T m' q (o ++ t) x' → KeepC m m' x → K (.ret (.tu [.i .i64 t.length, .ni])) m' x') :
    w ctx (envOf [.p q 0, .s (bs t)]) m x [] none none (RetG ctx strings_Builder_WriteString.c.rs K) strings_Builder_WriteString.c.code := by
  obtain ⟨ad, B, h1, h2, h3, h4⟩ := hB
  have hf : ctx.frz strings_Builder_copyCheck.n = false := rfl
  have htl : ¬ t.length = 0 := fun h => ht (List.length_eq_zero_iff.1 h)
  simp +contextual (disch := omega) [Nat.add_assoc, Int.add_assoc, if_pos, if_neg, -Int.not_lt, -Int.not_le, -Nat.not_lt, -Nat.not_le, -List.length_flatMap, strings_Builder_WriteString.c]
  rw [CallX_op (by rfl)]
  refine openg_w rfl rfl (.inl rfl) ?_
  rw [hf]
  refine strings_Builder_copyCheck.w hT h1 h2 ?_
  intro m1 x1 g1 g2 g3
  rcases h4 with ⟨rfl, rfl⟩ | ⟨b, b1, b2, rfl, b3⟩
  · simp +contextual (disch := omega) [Nat.add_assoc, Int.add_assoc, if_pos, if_neg, -Int.not_lt, -Int.not_le, -Nat.not_lt, -Nat.not_le, -List.length_flatMap, g2, htl]
    refine hK _ _ (by omega) ⟨_, _, Sto.seq _ _ _, .inr rfl, by omega, .inr ⟨x1 + 6, by omega, by omega, by simp, ?_⟩⟩ ?_
    · rw [Sto.sne _ _ _ _ (by omega), Sto.seq]; simp
    · intro j hj cs r e
      have hq : j ≠ q := fun h => by rw [h, h1] at e; cases e
      rw [Sto.sne _ _ _ _ hq, Sto.sne _ _ _ _ (by omega), g3 j hq, e]
  · have g4 := g3 b b2
    rw [b3] at g4
    simp +contextual (disch := omega) [Nat.add_assoc, Int.add_assoc, if_pos, if_neg, -Int.not_lt, -Int.not_le, -Nat.not_lt, -Nat.not_le, -List.length_flatMap, g2, g4, htl, ofBytes_len, bs_llen]
    refine hK _ _ (by omega) ⟨_, _, Sto.seq _ _ _, .inr rfl, by omega, .inr ⟨x1 + 6, by omega, by omega, by simp, ?_⟩⟩ ?_
    · rw [Sto.sne _ _ _ _ (by omega), Sto.seq, bs_list, ofBytes_app, List.take_of_length_le (by rw [ofBytes_len, bs_llen]; exact Nat.le_refl _)]
    · intro j hj cs r e
      have hq : j ≠ q := fun h => by rw [h, h1] at e; cases e
      have hb : j ≠ b := fun h => by rw [h, b3] at e; cases e
      rw [Sto.sne _ _ _ _ hq, Sto.sne _ _ _ _ (by omega), Sto.sne _ _ _ _ hb, g3 j hq, e]
theorem lcode_write_1.w {T : Nat} (hT : List.contains [71,72,73,74] T = true) {m : Sto} {x q c : Nat} {K : CR → Sto → Nat → Prop} {o : List Nat} {r : Bool} (n : Int) (h0 : 0 ≤ n) (h9 : n ≤ 1099511627776) (hc : m c = some (.cells [.p q 0] r)) (hB : Bd T m q o x) (hn : o.length + (digs n.toNat).length ≤ 2147483648)
    (hK : ∀ m' x', x ≤ x' → Bd T m' q (o ++ digs n.toNat) x' → KeepC m m' x → K (.ret (.tu [])) m' x') :
    w ctx (envOf [.i .i64 n, .p c 0]) m x [] none none (RetG ctx lcode_write_1.c.rs K) lcode_write_1.c.code := by
  have hp := octet_Put.a n
  unfold putS at hp
  rw [if_neg (by omega)] at hp
  have hf : ctx.frz strings_Builder_WriteString.n = false := rfl
  simp +contextual (disch := omega) [Nat.add_assoc, Int.add_assoc, if_pos, if_neg, -Int.not_lt, -Int.not_le, -Nat.not_lt, -Nat.not_le, -List.length_flatMap, lcode_write_1.c, ansK hp, hc]
  rw [CallX_op (by rfl)]
  refine openg_w rfl rfl (.inl rfl) ?_
  rw [hf]
  refine strings_Builder_WriteString.w hT (digs n.toNat) (digs_ne _) (hB.up (Nat.le_add_right _ _) (fun j hj => rfl)) hn ?_
  intro m' x' k1 k2 k3
  simp +contextual (disch := omega) [Nat.add_assoc, Int.add_assoc, if_pos, if_neg, -Int.not_lt, -Int.not_le, -Nat.not_lt, -Nat.not_le, -List.length_flatMap]
  exact hK _ _ (by omega) (k2.up (by omega) (fun j hj => rfl)) (fun j hj => k3 j (by omega))
theorem lcode_write_loop {T : Nat} (l : L) {K : CR → Sto → Nat → Prop} {e : Env} {m : Sto} {x c q : Nat} (P : List Nat) (hlen : l.kids.length ≤ 9223372036854775807)
    (ih : ∀ k ∈ l.kids, ∀ (o : List Nat) {m : Sto} {x : Nat} {K : CR → Sto → Nat → Prop}, Bd T m q o x → o.length + (textL k).length ≤ 2147483648 →
      (∀ m' x', x ≤ x' → Bd T m' q (o ++ textL k) x' → KeepC m m' x → K (.ret (.tu [])) m' x') → w ctx (envOf [.p q 0, .ag (cL k)]) m x [] none none (RetG ctx lcode_write.c.rs K) lcode_write.c.code)
    (e2 : e 2 = .p c 0) (e21 : e 21 = sV cL l.kids) (e22 : e 22 = .i .i64 l.kids.length) (e23 : e 23 = .i .i64 0) (hc : m c = some (.cells [.p q 0] false)) (hcx : c < x) (hB : Bd T m q P x)
    (hn : P.length + (l.kids.flatMap textL).length ≤ 2147483648)
    (hK : ∀ m' x', x ≤ x' → Bd T m' q (P ++ l.kids.flatMap textL) x' → KeepC m m' x → K (.ret (.tu [])) m' x') :
    w ctx e m x [] none none (BlkK 0 (RetG ctx [] K)) (.loop lcode_write.b1) := by
  have hfw : ctx.frz lcode_write.n = false := rfl
  refine for_w (fun i e' m' x' => e' 2 = .p c 0 ∧ e' 21 = sV cL l.kids ∧ e' 22 = .i .i64 l.kids.length ∧ e' 23 = .i .i64 i ∧ x ≤ x' ∧ Bd T m' q (P ++ (l.kids.take i).flatMap textL) x' ∧ KeepC m m' x) l.kids.length ?_ ?_ ?_
  · exact ⟨e2, e21, e22, e23, Nat.le_refl _, by simpa using hB, .refl _ _⟩
  · rintro i e' m' x' hi ⟨g1, g2, g3, g4, g5, g6, g7⟩
    have c0 := g7 c hcx _ _ hc
    have hT : (l.kids.take (i + 1)).flatMap textL = (l.kids.take i).flatMap textL ++ textL l.kids[i] := by
      rw [List.take_succ_eq_append_getElem hi, List.flatMap_append]; simp
    have hall : l.kids.flatMap textL = (l.kids.take (i + 1)).flatMap textL ++ (l.kids.drop (i + 1)).flatMap textL := by
      rw [← List.flatMap_append, List.take_append_drop]
    have hle := congrArg List.length hall
    rw [hT] at hle
    simp only [List.length_append] at hle
    simp +contextual (disch := omega) [Nat.add_assoc, Int.add_assoc, if_pos, if_neg, -Int.not_lt, -Int.not_le, -Nat.not_lt, -Nat.not_le, -List.length_flatMap, lcode_write.b1, g1, g2, g3, g4, hi, c0]
    rw [CallX_op (by rfl)]
    refine openg_w rfl rfl (.inl rfl) ?_
    rw [hfw]
    refine ih _ (List.getElem_mem hi) (P ++ (l.kids.take i).flatMap textL) (g6.up (by omega) (fun j hj => ?_)) (by rw [List.length_append]; omega) ?_
    · simp +contextual (disch := omega) [Nat.add_assoc, Int.add_assoc, if_pos, if_neg, -Int.not_lt, -Int.not_le, -Nat.not_lt, -Nat.not_le, -List.length_flatMap]
    intro m2 x2 k1 k2 k3
    simp +contextual (disch := omega) [Nat.add_assoc, Int.add_assoc, if_pos, if_neg, -Int.not_lt, -Int.not_le, -Nat.not_lt, -Nat.not_le, -List.length_flatMap, g1, g2, g3, g4]
    refine ⟨by omega, ?_, ?_⟩
    · rw [hT, ← List.append_assoc]
      exact k2.up (by omega) (fun j hj => rfl)
    · intro j hj cs r h
      refine k3 j (by omega) cs r ?_
      have := g7 j hj cs r h
      simp +contextual (disch := omega) [Nat.add_assoc, Int.add_assoc, if_pos, if_neg, -Int.not_lt, -Int.not_le, -Nat.not_lt, -Nat.not_le, -List.length_flatMap, this]
  · rintro e' m' x' ⟨g1, g2, g3, g4, g5, g6, g7⟩
    rw [List.take_length] at g6
    simp +contextual (disch := omega) [Nat.add_assoc, Int.add_assoc, if_pos, if_neg, -Int.not_lt, -Int.not_le, -Nat.not_lt, -Nat.not_le, -List.length_flatMap, lcode_write.b1, g1, g2, g3, g4]
    exact hK _ _ (by omega) (g6.up (by omega) (fun j hj => rfl)) g7
theorem lcode_write.w {T : Nat} (hT : List.contains [71,72,73,74] T = true) (l : L) : l.Ok → ∀ (d : Int) (h : rightS l 5 10 d = true) (o : List Nat) {m : Sto} {x q : Nat} {K : CR → Sto → Nat → Prop}, Bd T m q o x → o.length + (textL l).length ≤ 2147483648 →
    (∀ m' x', x ≤ x' → Bd T m' q (o ++ textL l) x' → KeepC m m' x → K (.ret (.tu [])) m' x') →
    w ctx (envOf [.p q 0, .ag (cL l)]) m x [] none none (RetG ctx lcode_write.c.rs K) lcode_write.c.code := by
  induction l using L.ind with
  | h l ih =>
  intro ok d h o m x q K hB hn hK
  have hf : ctx.frz lcode_write_1.n = false := rfl
  have hfw : ctx.frz lcode_write.n = false := rfl
  obtain ⟨r1, r2, r3, r4⟩ := right_kid h
  have hk := right_kind h
  rw [textL_eq] at hn hK
  simp only [List.length_append] at hn
  simp +contextual (disch := omega) [Nat.add_assoc, Int.add_assoc, if_pos, if_neg, -Int.not_lt, -Int.not_le, -Nat.not_lt, -Nat.not_le, -List.length_flatMap, lcode_write.c]
  rw [CallX_op (by rfl)]
  refine openg_w rfl rfl (.inl rfl) ?_
  rw [hf]
  obtain ⟨M, hM⟩ : ∃ M, M = (m.set x (some (.cells [.p q 0] false))).set (x + 1) (some (.cells (cL l) false)) := ⟨_, rfl⟩
  rw [← hM]
  have M0 : M x = some (.cells [.p q 0] false) := by rw [hM]; simp +contextual (disch := omega) [Nat.add_assoc, Int.add_assoc, if_pos, if_neg, -Int.not_lt, -Int.not_le, -Nat.not_lt, -Nat.not_le, -List.length_flatMap]
  have M1 : M (x + 1) = some (.cells (cL l) false) := by rw [hM]; simp +contextual (disch := omega) [Nat.add_assoc, Int.add_assoc, if_pos, if_neg, -Int.not_lt, -Int.not_le, -Nat.not_lt, -Nat.not_le, -List.length_flatMap]
  have MK : KeepC m M x := fun j hj cs r e => by rw [hM, Sto.sne _ _ _ _ (by omega), Sto.sne _ _ _ _ (by omega), e]
  refine lcode_write_1.w hT (o := o) l.kind (by omega) (by omega) M0 (hB.up (by omega) (fun j hj => by rw [hM, Sto.sne _ _ _ _ (by omega), Sto.sne _ _ _ _ (by omega)])) (by omega) ?_
  intro m1 x1 g1 g2 g3
  have c0 := g3 x (by omega) _ _ M0
  have c1 := g3 (x + 1) (by omega) _ _ M1
  have k1 : KeepC m m1 x := MK.trans (x := x) (y := x + 7) g3 (by omega)
  have hlen := ok.len
  by_cases h56 : l.kind = 5 ∨ l.kind = 6
  · rw [if_pos h56] at hn hK
    have hn1 : 0 ≤ l.n ∧ l.n ≤ 10 := by
      unfold namedS at r3
      rcases h56 with h | h <;> rw [h] at r3 <;> simp at r3 <;> omega
    have hna : namedR l.kind > 0 := by unfold namedR; rcases h56 with h | h <;> rw [h] <;> simp
    simp +contextual (disch := omega) [Nat.add_assoc, Int.add_assoc, if_pos, if_neg, -Int.not_lt, -Int.not_le, -Nat.not_lt, -Nat.not_le, -List.length_flatMap, c0, c1, ansK (lcode_named.a _), hna]
    rw [CallX_op (by rfl)]
    refine openg_w rfl rfl (.inl rfl) ?_
    rw [hf]
    refine lcode_write_1.w hT (o := o ++ digs l.kind.toNat) l.n (by omega) (by omega) c0 (g2.up (by omega) (fun j hj => rfl)) (by rw [List.length_append]; omega) ?_
    intro m2 x2 g4 g5 g6
    have d0 := g6 x (by omega) _ _ c0
    have d1 := g6 (x + 1) (by omega) _ _ c1
    have k2 : KeepC m m2 x := k1.trans g6 (by omega)
    simp +contextual (disch := omega) [Nat.add_assoc, Int.add_assoc, if_pos, if_neg, -Int.not_lt, -Int.not_le, -Nat.not_lt, -Nat.not_le, -List.length_flatMap, d0, d1]
    refine lcode_write_loop l (q := q) (c := x) (o ++ digs l.kind.toNat ++ digs l.n.toNat) (by omega) (fun k hk o {m x K} => ih k hk (ok.kid hk) (d - 1) (r4 k hk) o) (by simp +contextual (disch := omega) [Nat.add_assoc, Int.add_assoc, if_pos, if_neg, -Int.not_lt, -Int.not_le, -Nat.not_lt, -Nat.not_le, -List.length_flatMap]) (by simp +contextual (disch := omega) [Nat.add_assoc, Int.add_assoc, if_pos, if_neg, -Int.not_lt, -Int.not_le, -Nat.not_lt, -Nat.not_le, -List.length_flatMap]) (by simp +contextual (disch := omega) [Nat.add_assoc, Int.add_assoc, if_pos, if_neg, -Int.not_lt, -Int.not_le, -Nat.not_lt, -Nat.not_le, -List.length_flatMap]) (by simp +contextual (disch := omega) [Nat.add_assoc, Int.add_assoc, if_pos, if_neg, -Int.not_lt, -Int.not_le, -Nat.not_lt, -Nat.not_le, -List.length_flatMap]) d0 (by omega) (g5.up (by omega) (fun j hj => rfl)) (by simp only [List.length_append]; omega) ?_
    intro m' x' h1 h2 h3
    refine hK _ _ (by omega) ?_ (k2.trans h3 (by omega))
    simpa only [List.append_assoc] using h2
  · rw [if_neg h56] at hn hK
    have hna : ¬ namedR l.kind > 0 := by unfold namedR; rw [if_neg (by omega), if_neg (by omega)]; omega
    simp +contextual (disch := omega) [Nat.add_assoc, Int.add_assoc, if_pos, if_neg, -Int.not_lt, -Int.not_le, -Nat.not_lt, -Nat.not_le, -List.length_flatMap, c0, c1, ansK (lcode_named.a _), hna]
    simp only [List.length_nil] at hn
    refine lcode_write_loop l (q := q) (c := x) (o ++ digs l.kind.toNat) (by omega) (fun k hk o {m x K} => ih k hk (ok.kid hk) (d - 1) (r4 k hk) o) (by simp +contextual (disch := omega) [Nat.add_assoc, Int.add_assoc, if_pos, if_neg, -Int.not_lt, -Int.not_le, -Nat.not_lt, -Nat.not_le, -List.length_flatMap]) (by simp +contextual (disch := omega) [Nat.add_assoc, Int.add_assoc, if_pos, if_neg, -Int.not_lt, -Int.not_le, -Nat.not_lt, -Nat.not_le, -List.length_flatMap]) (by simp +contextual (disch := omega) [Nat.add_assoc, Int.add_assoc, if_pos, if_neg, -Int.not_lt, -Int.not_le, -Nat.not_lt, -Nat.not_le, -List.length_flatMap]) (by simp +contextual (disch := omega) [Nat.add_assoc, Int.add_assoc, if_pos, if_neg, -Int.not_lt, -Int.not_le, -Nat.not_lt, -Nat.not_le, -List.length_flatMap]) c0 (by omega) (g2.up (by omega) (fun j hj => rfl)) (by simp only [List.length_append]; omega) ?_
    intro m' x' h1 h2 h3
    refine hK _ _ (by omega) ?_ (k1.trans h3 (by omega))
    simpa only [List.append_assoc, List.append_nil] using h2
theorem strings_Builder_String.w {T : Nat} {m : Sto} {x q : Nat} {K : CR → Sto → Nat → Prop} (o : List Nat) (ho : o ≠ []) (hB : Bd T m q o x) (hn : o.length ≤ 2147483648)
    (hK : ∀ m' x', x ≤ x' → KeepC m m' x → K (.ret (.s (bs o))) m' x') :
    w ctx (envOf [.p q 0]) m x [] none none (RetG ctx strings_Builder_String.c.rs K) strings_Builder_String.c.code := by
  obtain ⟨ad, B, h1, h2, h3, ⟨h4, h5⟩ | ⟨b, b1, b2, rfl, b3⟩⟩ := hB
  · exact absurd h4 ho
  have hol : 0 < o.length := List.length_pos_iff.2 ho
  have hlb : (ofBytes (bs o).data.toList).length = o.length := by rw [ofBytes_len, bs_llen]
  have hx : bytesX (List.take o.length (ofBytes (bs o).data.toList)) = some (bs o).data.toList := by rw [List.take_of_length_le (by omega), bytesX_of]
  have hy : ({ data := (bs o).data.toList.toArray } : ByteArray) = bs o := by simp
  simp +contextual (disch := omega) [Nat.add_assoc, Int.add_assoc, if_pos, if_neg, -Int.not_lt, -Int.not_le, -Nat.not_lt, -Nat.not_le, -List.length_flatMap, strings_Builder_String.c, h1, b3, hlb, hx, hy]
  refine hK _ _ (by omega) ?_
  intro j hj cs r e
  have hb : j ≠ b := fun h => by rw [h, b3] at e; cases e
  rw [Sto.sne _ _ _ _ hb, e]
theorem lcode_Put.a (l : L) (ok : l.Ok) (hlen : RightS l 5 10 = true → (textL l).length ≤ 2147483648) : Ans ctx lcode_Put.n [.ag (cL l)] (if RightS l 5 10 = true then .tu [.s (bs (textL l)), .i .i64 0] else .tu [.s (bs []), .i .i64 1]) := by
  refine ans lcode_Put.f ?_
  have hf : ctx.frz lcode_write.n = false := rfl
  have hs : ctx.frz strings_Builder_String.n = false := rfl
  by_cases hR : RightS l 5 10 = true
  · rw [if_pos hR]
    simp +contextual (disch := omega) [Nat.add_assoc, Int.add_assoc, if_pos, if_neg, -Int.not_lt, -Int.not_le, -Nat.not_lt, -Nat.not_le, -List.length_flatMap, lcode_Put.c, ansK (level_Right.a l ok 5 10), hR]
    rw [CallX_op (by rfl)]
    refine openg_w rfl rfl (.inl rfl) ?_
    rw [hf]
    have hr : ∃ d, rightS l 5 10 d = true := by
      refine ⟨12, ?_⟩
      unfold RightS at hR
      split at hR
      · cases hR
      · simpa using (Bool.and_eq_true _ _ ▸ hR).2
    obtain ⟨d, hd⟩ := hr
    refine lcode_write.w (T := 72) (by decide) l ok d hd [] (q := 5) ⟨.np, .ns, ?_, .inl rfl, by omega, .inl ⟨rfl, rfl⟩⟩ (by simpa using hlen hR) ?_
    · simp +contextual (disch := omega) [Nat.add_assoc, Int.add_assoc, if_pos, if_neg, -Int.not_lt, -Int.not_le, -Nat.not_lt, -Nat.not_le, -List.length_flatMap]
    intro m' x' g1 g2 g3
    simp +contextual (disch := omega) [Nat.add_assoc, Int.add_assoc, if_pos, if_neg, -Int.not_lt, -Int.not_le, -Nat.not_lt, -Nat.not_le, -List.length_flatMap]
    rw [CallX_op (by rfl)]
    refine openg_w rfl rfl (.inl rfl) ?_
    rw [hs]
    refine strings_Builder_String.w (textL l) (by rw [textL_eq]; simp [digs_ne]) (g2.up (by omega) (fun j hj => rfl)) (hlen hR) ?_
    intro m2 x2 k1 k2
    simp +contextual (disch := omega) [Nat.add_assoc, Int.add_assoc, if_pos, if_neg, -Int.not_lt, -Int.not_le, -Nat.not_lt, -Nat.not_le, -List.length_flatMap]
  · rw [if_neg hR]
    simp +contextual (disch := omega) [Nat.add_assoc, Int.add_assoc, if_pos, if_neg, -Int.not_lt, -Int.not_le, -Nat.not_lt, -Nat.not_le, -List.length_flatMap, lcode_Put.c, ansK (level_Right.a l ok 5 10), hR]
theorem right_small (l : L) : ∀ {d : Int}, rightS l 5 10 d = true → l.kind.toNat < 7 ∧ (l.kind = 5 ∨ l.kind = 6 → l.n.toNat < 10) := by
  intro d h
  have hk := right_kind h
  have r3 := (right_kid h).2.2.1
  refine ⟨by omega, fun h56 => ?_⟩
  unfold namedS at r3
  rcases h56 with h | h <;> rw [h] at r3 <;> simp at r3 <;> omega
theorem digs_one {n : Nat} (h : n < 128) : digs n = [n] := digs_lt h
/-- No more bytes than there can be. -/
theorem textL_len (l : L) : ∀ {d : Nat}, rightS l 5 10 d = true → (textL l).length + 2 ≤ 2 ^ (d + 1) := by
  induction l using L.ind with
  | h l ih =>
    intro d h
    obtain ⟨r1, r2, r3, r4⟩ := right_kid h
    obtain ⟨s1, s2⟩ := right_small l h
    have hk := right_kind h
    obtain ⟨d, rfl⟩ : ∃ k, d = k + 1 := ⟨d - 1, by omega⟩
    have hp : 1 ≤ 2 ^ d := Nat.one_le_two_pow
    have hp1 : 2 ^ (d + 1) = 2 * 2 ^ d := by rw [Nat.pow_succ]; omega
    have hp2 : 2 ^ (d + 1 + 1) = 4 * 2 ^ d := by rw [Nat.pow_succ, hp1]; omega
    have hkid : ∀ k ∈ l.kids, (textL k).length + 2 ≤ 2 ^ (d + 1) := fun k hk => ih k hk (d := d) (by have := r4 k hk; rwa [show ((d + 1 : Nat) : Int) - 1 = (d : Nat) by omega] at this)
    rw [textL_eq, digs_one (by omega)]
    rw [hp2]
    rw [hp1] at hkid
    generalize 2 ^ d = P at *
    generalize l.kind = k at *
    generalize l.n = n at *
    generalize l.kids = ks at *
    match ks, r2, hkid with
    | [], r2, hkid =>
      by_cases h56 : k = 5 ∨ k = 6
      · rw [if_pos h56, digs_one (by have := s2 h56; omega)]; simp; omega
      · rw [if_neg h56]; simp; omega
    | [a], r2, hkid =>
      have ha := hkid a (by simp)
      have : ¬ (k = 5 ∨ k = 6) := fun h => by rcases h with h | h <;> rw [h] at r2 <;> simp [kidsS] at r2
      rw [if_neg this]; simp; omega
    | [a, b], r2, hkid =>
      have ha := hkid a (by simp)
      have hb := hkid b (by simp)
      have : ¬ (k = 5 ∨ k = 6) := fun h => by rcases h with h | h <;> rw [h] at r2 <;> simp [kidsS] at r2
      rw [if_neg this]; simp; omega
    | _ :: _ :: _ :: _, r2, _ =>
      have := kidsS_le k
      simp at r2
      omega
theorem RightS_right {l : L} (h : RightS l 5 10 = true) : rightS l 5 10 12 = true := by
  unfold RightS at h
  split at h
  · cases h
  · simpa using (Bool.and_eq_true _ _ ▸ h).2
theorem RightS_len {l : L} (h : RightS l 5 10 = true) : (textL l).length ≤ 8190 := by
  have := textL_len l (d := 12) (RightS_right h)
  omega
theorem ref03_text.a (l : L) : l.Ok → ∀ {d : Nat}, d ≤ 12 → rightS l 5 10 d = true → Ans ctx ref03_text.n [.ag (cL l)] (.s (bs (textL l))) := by
  induction l using L.ind with
  | h l ih =>
    intro ok d hd h
    obtain ⟨r1, r2, r3, r4⟩ := right_kid h
    obtain ⟨s1, s2⟩ := right_small l h
    have hk := right_kind h
    have hlen := ok.len
    have hpow : 2 ^ (d + 1) ≤ 2 ^ 13 := Nat.pow_le_pow_right (by omega) (by omega)
    have hT := textL_len l h
    have hp1 := ref01_Put.a l.kind
    have hp2 := ref01_Put.a l.n
    unfold putS at hp1
    rw [if_neg (by omega)] at hp1
    refine ans ref03_text.f ?_
    rw [textL_eq] at hT ⊢
    by_cases h56 : l.kind = 5 ∨ l.kind = 6
    · unfold putS at hp2
      have hn0 : 0 ≤ l.n := by
        unfold namedS at r3
        rcases h56 with h | h <;> rw [h] at r3 <;> simp at r3 <;> omega
      have := s2 h56
      rw [if_neg (by omega)] at hp2
      rw [if_pos h56] at hT ⊢
      have hks : l.kids = [] := by
        rcases h56 with h | h <;> rw [h] at r2 <;> simp [kidsS] at r2 <;> exact r2
      have hT1 : (digs l.kind.toNat).length + (digs l.n.toNat).length ≤ 8190 := by simp only [List.length_append] at hT; omega
      rw [hks] at hT ⊢
      rcases h56 with h | h
      all_goals
        rw [h] at hp1 hT1 ⊢
        have hT2 : (digs 5).length = 1 ∧ (digs 6).length = 1 := ⟨by rw [digs_one (by omega)]; rfl, by rw [digs_one (by omega)]; rfl⟩
        have hT3 : (digs l.n.toNat).length ≤ 8190 := by omega
        simp +contextual (disch := omega) [Nat.add_assoc, Int.add_assoc, if_pos, if_neg, -Int.not_lt, -Int.not_le, -Nat.not_lt, -Nat.not_le, -List.length_flatMap, ref03_text.c, ansK hp1, ansK hp2, h, hks, hT2.1, hT2.2]
        refine un_w ?_
        simp +contextual (disch := omega) [Nat.add_assoc, Int.add_assoc, if_pos, if_neg, -Int.not_lt, -Int.not_le, -Nat.not_lt, -Nat.not_le, -List.length_flatMap, ref03_text.b1, hks]
    · rw [if_neg h56] at hT ⊢
      have h5 : ¬ l.kind = 5 := fun h => h56 (.inl h)
      have h6 : ¬ l.kind = 6 := fun h => h56 (.inr h)
      have hT1 : (digs l.kind.toNat).length + (l.kids.flatMap textL).length ≤ 8190 := by simp only [List.length_append] at hT; omega
      simp +contextual (disch := omega) [Nat.add_assoc, Int.add_assoc, if_pos, if_neg, -Int.not_lt, -Int.not_le, -Nat.not_lt, -Nat.not_le, -List.length_flatMap, ref03_text.c, ansK hp1, h5, h6]
      refine for_w (fun i e m x => e 1 = .p 0 0 ∧ m 0 = some (.cells (cL l) false) ∧ e 7 = .i .i64 i ∧ e 3 = .s (bs (digs l.kind.toNat ++ (l.kids.take i).flatMap textL))) l.kids.length ?_ ?_ ?_
      · simp +contextual (disch := omega) [Nat.add_assoc, Int.add_assoc, if_pos, if_neg, -Int.not_lt, -Int.not_le, -Nat.not_lt, -Nat.not_le, -List.length_flatMap]
      · rintro i e m x hi ⟨g1, g2, g3, g4⟩
        have hT9 : (l.kids.take (i + 1)).flatMap textL = (l.kids.take i).flatMap textL ++ textL l.kids[i] := by
          rw [List.take_succ_eq_append_getElem hi, List.flatMap_append]; simp
        have hall : l.kids.flatMap textL = (l.kids.take (i + 1)).flatMap textL ++ (l.kids.drop (i + 1)).flatMap textL := by
          rw [← List.flatMap_append, List.take_append_drop]
        have hle := congrArg List.length hall
        rw [hT9] at hle
        simp only [List.length_append] at hle
        have hr4 := r4 _ (List.getElem_mem hi)
        obtain ⟨d, rfl⟩ : ∃ k, d = k + 1 := ⟨d - 1, by omega⟩
        rw [show ((d + 1 : Nat) : Int) - 1 = (d : Nat) by omega] at hr4
        simp +contextual (disch := omega) [Nat.add_assoc, Int.add_assoc, if_pos, if_neg, -Int.not_lt, -Int.not_le, -Nat.not_lt, -Nat.not_le, -List.length_flatMap, ref03_text.b1, g1, g2, g3, g4, hi, ansK (ih _ (List.getElem_mem hi) (ok.at hi) (by omega) hr4)]
        rw [hT9]
      · rintro e m x ⟨g1, g2, g3, g4⟩
        rw [List.take_length] at g4
        simp +contextual (disch := omega) [Nat.add_assoc, Int.add_assoc, if_pos, if_neg, -Int.not_lt, -Int.not_le, -Nat.not_lt, -Nat.not_le, -List.length_flatMap, ref03_text.b1, g1, g2, g3, g4]
theorem ref03_Put.a (l : L) (ok : l.Ok) : Ans ctx ref03_Put.n [.ag (cL l)] (if RightS l 5 10 = true then .tu [.s (bs (textL l)), .i .i64 0] else .tu [.s (bs []), .i .i64 1]) := by
  refine ans ref03_Put.f ?_
  by_cases hR : RightS l 5 10 = true
  · rw [if_pos hR]
    simp +contextual (disch := omega) [Nat.add_assoc, Int.add_assoc, if_pos, if_neg, -Int.not_lt, -Int.not_le, -Nat.not_lt, -Nat.not_le, -List.length_flatMap, ref03_Put.c, ansK (ref02_Right.a l ok 5 10), hR, ansK (ref03_text.a l ok (d := 12) (by omega) (RightS_right hR))]
  · rw [if_neg hR]
    simp +contextual (disch := omega) [Nat.add_assoc, Int.add_assoc, if_pos, if_neg, -Int.not_lt, -Int.not_le, -Nat.not_lt, -Nat.not_le, -List.length_flatMap, ref03_Put.c, ansK (ref02_Right.a l ok 5 10), hR]
end Pi


set_option linter.unusedSimpArgs false
set_option linter.unusedVariables false
namespace Pi
/-- The numbers that a term begins with. -/
def headT (t : Tm) : List Nat := digs t.kind.toNat ++ (if t.kind = 1 then digs t.n.toNat else if t.kind = 3 then digs t.n.toNat ++ digs t.lvls.length else [])
mutual
/-- A right term's bytes. -/
def textT : Tm → List Nat
  | .mk k n ls ks => headT (.mk k n ls []) ++ ls.flatMap textL ++ textTs ks
def textTs : List Tm → List Nat
  | [] => []
  | k :: r => textT k ++ textTs r
end
theorem textTs_eq (ks : List Tm) : textTs ks = ks.flatMap textT := by
  induction ks with
  | nil => rfl
  | cons k r ih => simp [textTs, ih]
theorem textT_eq (t : Tm) : textT t = headT t ++ t.lvls.flatMap textL ++ t.kids.flatMap textT := by
  cases t with
  | mk k n ls ks => simp only [textT, textTs_eq]; rfl
theorem tcode_writer_number.w {T : Nat} (hT : List.contains [71,72,73,74] T = true) {m : Sto} {x q : Nat} {K : CR → Sto → Nat → Prop} {o : List Nat} (n : Int) (h0 : 0 ≤ n) (h9 : n ≤ 1099511627776) (hB : Bd T m q o x) (hn : o.length + (digs n.toNat).length ≤ 2147483648)
    (hK : ∀ m' x', x ≤ x' → Bd T m' q (o ++ digs n.toNat) x' → KeepC m m' x → K (.ret (.tu [])) m' x') :
    w ctx (envOf [.p q 0, .i .i64 n]) m x [] none none (RetG ctx tcode_writer_number.c.rs K) tcode_writer_number.c.code := by
  have hp := octet_Put.a n
  unfold putS at hp
  rw [if_neg (by omega)] at hp
  have hf : ctx.frz strings_Builder_WriteString.n = false := rfl
  obtain ⟨ad, B, b1, b2, b3, b4⟩ := id hB
  simp +contextual (disch := omega) [Nat.add_assoc, Int.add_assoc, if_pos, if_neg, -Int.not_lt, -Int.not_le, -Nat.not_lt, -Nat.not_le, -List.length_flatMap, tcode_writer_number.c, ansK hp, b1]
  rw [CallX_op (by rfl)]
  refine openg_w rfl rfl (.inl rfl) ?_
  rw [hf]
  refine strings_Builder_WriteString.w hT (digs n.toNat) (digs_ne _) (hB.up (Nat.le_add_right _ _) (fun j hj => rfl)) hn ?_
  intro m' x' k1 k2 k3
  simp +contextual (disch := omega) [Nat.add_assoc, Int.add_assoc, if_pos, if_neg, -Int.not_lt, -Int.not_le, -Nat.not_lt, -Nat.not_le, -List.length_flatMap]
  exact hK _ _ (by omega) (k2.up (by omega) (fun j hj => rfl)) (fun j hj => k3 j (by omega))
/-- What is right is so, kid by kid. -/
theorem rightT_at {t : Tm} {v p q d : Int} (h : rightT t v p q d = true) : 0 < d ∧ (t.kids.length : Int) = kidsT t.kind ∧ namedT t v = true ∧ (∀ l ∈ t.lvls, RightS l p q = true) ∧ ∀ (j : Nat) (h : j < t.kids.length), rightT t.kids[j] (v + bindT t.kind j) p q (d - 1) = true := by
  rw [rightT_eq] at h
  simp only [Bool.and_eq_true, decide_eq_true_eq, Bool.not_eq_true', List.any_eq_false, Bool.not_eq_false] at h
  refine ⟨h.1.1.1.1, h.1.1.1.2, h.1.1.2, fun l hl => by simpa using h.1.2 l hl, fun j hj => by have := rightTs_true.1 h.2 j hj; rwa [Nat.zero_add] at this⟩
theorem tcode_writer_llp {T : Nat} (hT : List.contains [71,72,73,74] T = true) (t : Tm) {Q : X → S → Prop} {e : Env} {m : Sto} {x q : Nat} (P : List Nat) (ok : t.Ok) (hR : ∀ l ∈ t.lvls, RightS l 5 10 = true)
    (e0 : e 0 = .p q 0) (e3 : e 3 = e 3) (e34 : e 34 = sV cL t.lvls) (e35 : e 35 = .i .i64 t.lvls.length) (e36 : e 36 = .i .i64 0) (hB : Bd T m q P x)
    (hn : P.length + (t.lvls.flatMap textL).length ≤ 2147483648)
    (hQ : ∀ e' m' x', x ≤ x' → e' 0 = .p q 0 → e' 3 = e 3 → Bd T m' q (P ++ t.lvls.flatMap textL) x' → KeepC m m' x → Q (.exit 1) ⟨e', m', x', [], none, none⟩) :
    w ctx e m x [] none none Q (.loop tcode_writer_term.b1) := by
  have hf : ctx.frz strings_Builder_WriteString.n = false := rfl
  have hlen := ok.llen
  generalize hE3 : e 3 = E3 at *
  refine for_w (fun i e' m' x' => e' 0 = .p q 0 ∧ e' 3 = E3 ∧ e' 34 = sV cL t.lvls ∧ e' 35 = .i .i64 t.lvls.length ∧ e' 36 = .i .i64 i ∧ x ≤ x' ∧ Bd T m' q (P ++ (t.lvls.take i).flatMap textL) x' ∧ KeepC m m' x) t.lvls.length ?_ ?_ ?_
  · exact ⟨e0, hE3, e34, e35, e36, Nat.le_refl _, by simpa using hB, .refl _ _⟩
  · rintro i e' m' x' hi ⟨g0, gE, g1, g2, g3, g4, g5, g6⟩
    have hT2 : (t.lvls.take (i + 1)).flatMap textL = (t.lvls.take i).flatMap textL ++ textL t.lvls[i] := by
      rw [List.take_succ_eq_append_getElem hi, List.flatMap_append]; simp
    have hall : t.lvls.flatMap textL = (t.lvls.take (i + 1)).flatMap textL ++ (t.lvls.drop (i + 1)).flatMap textL := by
      rw [← List.flatMap_append, List.take_append_drop]
    have hle := congrArg List.length hall
    rw [hT2] at hle
    simp only [List.length_append] at hle
    have hRi := hR _ (List.getElem_mem hi)
    have hp := lcode_Put.a t.lvls[i] (ok.lat hi) (fun h => by have := RightS_len h; omega)
    rw [if_pos hRi] at hp
    obtain ⟨ad, B, b1, b2, b3, b4⟩ := id g5
    simp +contextual (disch := omega) [Nat.add_assoc, Int.add_assoc, if_pos, if_neg, -Int.not_lt, -Int.not_le, -Nat.not_lt, -Nat.not_le, -List.length_flatMap, tcode_writer_term.b1, g0, gE, g1, g2, g3, hi, ansK hp, b1]
    rw [CallX_op (by rfl)]
    refine openg_w rfl rfl (.inl rfl) ?_
    rw [hf]
    refine strings_Builder_WriteString.w (o := P ++ (t.lvls.take i).flatMap textL) hT (textL t.lvls[i]) (by rw [textL_eq]; simp [digs_ne]) (g5.up (by omega) (fun j hj => ?_)) (by rw [List.length_append]; omega) ?_
    · simp +contextual (disch := omega) [Nat.add_assoc, Int.add_assoc, if_pos, if_neg, -Int.not_lt, -Int.not_le, -Nat.not_lt, -Nat.not_le, -List.length_flatMap]
    intro m2 x2 k1 k2 k3
    simp +contextual (disch := omega) [Nat.add_assoc, Int.add_assoc, if_pos, if_neg, -Int.not_lt, -Int.not_le, -Nat.not_lt, -Nat.not_le, -List.length_flatMap, g0, gE, g1, g2, g3]
    refine ⟨by omega, ?_, ?_⟩
    · rw [hT2, ← List.append_assoc]
      exact k2.up (by omega) (fun j hj => rfl)
    · intro j hj cs r h
      refine k3 j (by omega) cs r ?_
      have := g6 j hj cs r h
      simp +contextual (disch := omega) [Nat.add_assoc, Int.add_assoc, if_pos, if_neg, -Int.not_lt, -Int.not_le, -Nat.not_lt, -Nat.not_le, -List.length_flatMap, this]
  · rintro e' m' x' ⟨g0, gE, g1, g2, g3, g4, g5, g6⟩
    rw [List.take_length] at g5
    simp +contextual (disch := omega) [Nat.add_assoc, Int.add_assoc, if_pos, if_neg, -Int.not_lt, -Int.not_le, -Nat.not_lt, -Nat.not_le, -List.length_flatMap, tcode_writer_term.b1, g0, gE, g1, g2, g3]
    exact hQ _ _ _ (by omega) (by simp +contextual (disch := omega) [Nat.add_assoc, Int.add_assoc, if_pos, if_neg, -Int.not_lt, -Int.not_le, -Nat.not_lt, -Nat.not_le, -List.length_flatMap, g0]) (by simp +contextual (disch := omega) [Nat.add_assoc, Int.add_assoc, if_pos, if_neg, -Int.not_lt, -Int.not_le, -Nat.not_lt, -Nat.not_le, -List.length_flatMap, gE]) (g5.up (by omega) (fun j hj => rfl)) g6
theorem tcode_writer_klp {T : Nat} (t : Tm) {K : CR → Sto → Nat → Prop} {e : Env} {m : Sto} {x q : Nat} (P : List Nat) (hlen : t.kids.length ≤ 9223372036854775807)
    (ih : ∀ k ∈ t.kids, ∀ (o : List Nat) {m : Sto} {x : Nat} {K : CR → Sto → Nat → Prop}, Bd T m q o x → o.length + (textT k).length ≤ 2147483648 →
      (∀ m' x', x ≤ x' → Bd T m' q (o ++ textT k) x' → KeepC m m' x → K (.ret (.tu [])) m' x') → w ctx (envOf [.p q 0, .ag (cT k)]) m x [] none none (RetG ctx tcode_writer_term.c.rs K) tcode_writer_term.c.code)
    (e2 : e 0 = .p q 0) (e21 : e 52 = sV cT t.kids) (e22 : e 53 = .i .i64 t.kids.length) (e23 : e 54 = .i .i64 0) (hB : Bd T m q P x)
    (hn : P.length + (t.kids.flatMap textT).length ≤ 2147483648)
    (hK : ∀ m' x', x ≤ x' → Bd T m' q (P ++ t.kids.flatMap textT) x' → KeepC m m' x → K (.ret (.tu [])) m' x') :
    w ctx e m x [] none none (BlkK 3 (RetG ctx [] K)) (.loop tcode_writer_term.b2) := by
  have hfw : ctx.frz tcode_writer_term.n = false := rfl
  refine for_w (fun i e' m' x' => e' 0 = .p q 0 ∧ e' 52 = sV cT t.kids ∧ e' 53 = .i .i64 t.kids.length ∧ e' 54 = .i .i64 i ∧ x ≤ x' ∧ Bd T m' q (P ++ (t.kids.take i).flatMap textT) x' ∧ KeepC m m' x) t.kids.length ?_ ?_ ?_
  · exact ⟨e2, e21, e22, e23, Nat.le_refl _, by simpa using hB, .refl _ _⟩
  · rintro i e' m' x' hi ⟨g1, g2, g3, g4, g5, g6, g7⟩
    have hT : (t.kids.take (i + 1)).flatMap textT = (t.kids.take i).flatMap textT ++ textT t.kids[i] := by
      rw [List.take_succ_eq_append_getElem hi, List.flatMap_append]; simp
    have hall : t.kids.flatMap textT = (t.kids.take (i + 1)).flatMap textT ++ (t.kids.drop (i + 1)).flatMap textT := by
      rw [← List.flatMap_append, List.take_append_drop]
    have hle := congrArg List.length hall
    rw [hT] at hle
    simp only [List.length_append] at hle
    simp +contextual (disch := omega) [Nat.add_assoc, Int.add_assoc, if_pos, if_neg, -Int.not_lt, -Int.not_le, -Nat.not_lt, -Nat.not_le, -List.length_flatMap, tcode_writer_term.b2, g1, g2, g3, g4, hi]
    rw [CallX_op (by rfl)]
    refine openg_w rfl rfl (.inl rfl) ?_
    rw [hfw]
    refine ih _ (List.getElem_mem hi) (P ++ (t.kids.take i).flatMap textT) (g6.up (by omega) (fun j hj => ?_)) (by rw [List.length_append]; omega) ?_
    · simp +contextual (disch := omega) [Nat.add_assoc, Int.add_assoc, if_pos, if_neg, -Int.not_lt, -Int.not_le, -Nat.not_lt, -Nat.not_le, -List.length_flatMap]
    intro m2 x2 k1 k2 k3
    simp +contextual (disch := omega) [Nat.add_assoc, Int.add_assoc, if_pos, if_neg, -Int.not_lt, -Int.not_le, -Nat.not_lt, -Nat.not_le, -List.length_flatMap, g1, g2, g3, g4]
    refine ⟨by omega, ?_, ?_⟩
    · rw [hT, ← List.append_assoc]
      exact k2.up (by omega) (fun j hj => rfl)
    · intro j hj cs r h
      refine k3 j (by omega) cs r ?_
      have := g7 j hj cs r h
      simp +contextual (disch := omega) [Nat.add_assoc, Int.add_assoc, if_pos, if_neg, -Int.not_lt, -Int.not_le, -Nat.not_lt, -Nat.not_le, -List.length_flatMap, this]
  · rintro e' m' x' ⟨g1, g2, g3, g4, g5, g6, g7⟩
    rw [List.take_length] at g6
    simp +contextual (disch := omega) [Nat.add_assoc, Int.add_assoc, if_pos, if_neg, -Int.not_lt, -Int.not_le, -Nat.not_lt, -Nat.not_le, -List.length_flatMap, tcode_writer_term.b2, g1, g2, g3, g4]
    exact hK _ _ (by omega) (g6.up (by omega) (fun j hj => rfl)) g7
theorem right_head {t : Tm} {v d : Int} (h : rightT t v 5 10 d = true) (hv : v ≤ 2000) : (1 ≤ t.kind ∧ t.kind ≤ 7) ∧ (t.kind = 1 → 0 ≤ t.n ∧ t.n < v) ∧ (t.kind = 3 → 0 ≤ t.n ∧ t.n < 20) ∧ t.lvls.length ≤ 5 ∧ (t.kind ≠ 1 → t.kind ≠ 3 → t.n = 0) ∧ (t.kind = 2 → t.lvls.length = 1) ∧ (t.kind ≠ 2 → t.kind ≠ 3 → t.lvls.length = 0) := by
  obtain ⟨h1, h2, h3, h4, h5⟩ := rightT_at h
  have hk : 1 ≤ t.kind ∧ t.kind ≤ 7 := by
    unfold kidsT at h2
    split at h2
    · omega
    · split at h2
      · omega
      · split at h2 <;> omega
  unfold namedT at h3
  split at h3
  · rename_i hk1
    simp only [Bool.and_eq_true, decide_eq_true_eq] at h3
    exact ⟨hk, fun _ => ⟨h3.1.1, h3.1.2⟩, fun h => by omega, by omega, fun h => by omega, fun h => by omega, fun _ _ => h3.2⟩
  · split at h3
    · simp only [Bool.and_eq_true, decide_eq_true_eq] at h3
      exact ⟨hk, fun h => by omega, fun _ => ⟨h3.1.1, h3.1.2⟩, by omega, fun _ h => by omega, fun h => by omega, fun _ h => by omega⟩
    · split at h3
      · simp only [Bool.and_eq_true, decide_eq_true_eq] at h3
        exact ⟨hk, fun h => by omega, fun h => by omega, by omega, fun _ _ => h3.1, fun _ => h3.2, fun h => by omega⟩
      · simp only [Bool.and_eq_true, decide_eq_true_eq] at h3
        exact ⟨hk, fun h => by omega, fun h => by omega, by omega, fun _ _ => h3.1, fun h => by omega, fun _ _ => h3.2⟩
set_option maxHeartbeats 2000000 in
theorem tcode_writer_term.w {T : Nat} (hT : List.contains [71,72,73,74] T = true) (t : Tm) : t.Ok → ∀ (v d : Int) (hv : v + d ≤ 2000) (h : rightT t v 5 10 d = true) (o : List Nat) {m : Sto} {x q : Nat} {K : CR → Sto → Nat → Prop}, Bd T m q o x → o.length + (textT t).length ≤ 2147483648 →
    (∀ m' x', x ≤ x' → Bd T m' q (o ++ textT t) x' → KeepC m m' x → K (.ret (.tu [])) m' x') →
    w ctx (envOf [.p q 0, .ag (cT t)]) m x [] none none (RetG ctx tcode_writer_term.c.rs K) tcode_writer_term.c.code := by
  induction t using Tm.ind with
  | h t ih =>
  intro ok v d hv h o m x q K hB hn hK
  have hf : ctx.frz tcode_writer_number.n = false := rfl
  obtain ⟨r1, r2, r3, r4, r5⟩ := rightT_at h
  obtain ⟨s1, s2, s3, s4, s5, s6, s7⟩ := right_head h (by omega)
  have ih' : ∀ k ∈ t.kids, ∀ (o : List Nat) {m : Sto} {x : Nat} {K : CR → Sto → Nat → Prop}, Bd T m q o x → o.length + (textT k).length ≤ 2147483648 →
      (∀ m' x', x ≤ x' → Bd T m' q (o ++ textT k) x' → KeepC m m' x → K (.ret (.tu [])) m' x') → Pi.w ctx (envOf [.p q 0, .ag (cT k)]) m x [] none none (RetG ctx tcode_writer_term.c.rs K) tcode_writer_term.c.code := by
    intro k hk o m x K h1 h2 h3
    obtain ⟨j, hj, rfl⟩ := List.getElem_of_mem hk
    have hb : bindT t.kind j ≤ 1 := by unfold bindT; split <;> omega
    exact ih _ hk (ok.kid hk) (v + bindT t.kind j) (d - 1) (by omega) (r5 j hj) o h1 h2 h3
  rw [textT_eq] at hn hK
  simp only [List.length_append] at hn
  obtain ⟨hd, hhd⟩ : ∃ z, z = headT t := ⟨_, rfl⟩
  have hhd2 := hhd
  unfold headT at hhd2
  rw [← hhd] at hn hK
  simp +contextual (disch := omega) [Nat.add_assoc, Int.add_assoc, if_pos, if_neg, -Int.not_lt, -Int.not_le, -Nat.not_lt, -Nat.not_le, -List.length_flatMap, tcode_writer_term.c]
  rw [CallX_op (by rfl)]
  refine openg_w rfl rfl (.inl rfl) ?_
  rw [hf]
  obtain ⟨M, hM⟩ : ∃ M, M = m.set x (some (.cells (cT t) false)) := ⟨_, rfl⟩
  rw [← hM]
  have M1 : M x = some (.cells (cT t) false) := by rw [hM]; simp +contextual (disch := omega) [Nat.add_assoc, Int.add_assoc, if_pos, if_neg, -Int.not_lt, -Int.not_le, -Nat.not_lt, -Nat.not_le, -List.length_flatMap]
  have MK : KeepC m M x := fun j hj cs r e => by rw [hM, Sto.sne _ _ _ _ (by omega), e]
  have hlenH := congrArg List.length hhd2
  simp only [List.length_append] at hlenH
  refine tcode_writer_number.w hT (o := o) t.kind (by omega) (by omega) (hB.up (by omega) (fun j hj => by rw [hM, Sto.sne _ _ _ _ (by omega)])) (by omega) ?_
  intro m1 x1 g1 g2 g3
  have c1 := g3 x (by omega) _ _ M1
  have k1 : KeepC m m1 x := MK.trans g3 (by omega)
  have hlen := ok.len
  have hllen := ok.llen
  by_cases h3 : t.kind = 3
  · have h1 : ¬ t.kind = 1 := by omega
    rw [if_neg h1, if_pos h3] at hhd2 hlenH
    simp only [List.length_append] at hlenH
    simp +contextual (disch := omega) [Nat.add_assoc, Int.add_assoc, if_pos, if_neg, -Int.not_lt, -Int.not_le, -Nat.not_lt, -Nat.not_le, -List.length_flatMap, c1, h3]
    rw [CallX_op (by rfl)]
    refine openg_w rfl rfl (.inl rfl) ?_
    rw [hf]
    refine tcode_writer_number.w hT (o := o ++ digs t.kind.toNat) t.n (s3 h3).1 (by have := s3 h3; omega) (g2.up (by omega) (fun j hj => rfl)) (by rw [List.length_append]; omega) ?_
    intro m2 x2 g4 g5 g6
    have c2 := g6 x (by omega) _ _ c1
    have k2 : KeepC m m2 x := k1.trans g6 (by omega)
    simp +contextual (disch := omega) [Nat.add_assoc, Int.add_assoc, if_pos, if_neg, -Int.not_lt, -Int.not_le, -Nat.not_lt, -Nat.not_le, -List.length_flatMap, c2]
    rw [CallX_op (by rfl)]
    refine openg_w rfl rfl (.inl rfl) ?_
    rw [hf]
    refine tcode_writer_number.w hT (o := o ++ digs t.kind.toNat ++ digs t.n.toNat) (t.lvls.length : Int) (by omega) (by omega) (g5.up (by omega) (fun j hj => rfl)) (by rw [Int.toNat_natCast]; simp only [List.length_append]; omega) ?_
    intro m3 x3 g7 g8 g9
    rw [Int.toNat_natCast, show o ++ digs t.kind.toNat ++ digs t.n.toNat ++ digs t.lvls.length = o ++ hd by rw [hhd2]; simp] at g8
    have c3 := g9 x (by omega) _ _ c2
    have k3 : KeepC m m3 x := k2.trans g9 (by omega)
    simp +contextual (disch := omega) [Nat.add_assoc, Int.add_assoc, if_pos, if_neg, -Int.not_lt, -Int.not_le, -Nat.not_lt, -Nat.not_le, -List.length_flatMap, c3]
    refine tcode_writer_llp hT t (o ++ hd) ok r4 (by simp +contextual (disch := omega) [Nat.add_assoc, Int.add_assoc, if_pos, if_neg, -Int.not_lt, -Int.not_le, -Nat.not_lt, -Nat.not_le, -List.length_flatMap]) rfl (by simp +contextual (disch := omega) [Nat.add_assoc, Int.add_assoc, if_pos, if_neg, -Int.not_lt, -Int.not_le, -Nat.not_lt, -Nat.not_le, -List.length_flatMap]) (by simp +contextual (disch := omega) [Nat.add_assoc, Int.add_assoc, if_pos, if_neg, -Int.not_lt, -Int.not_le, -Nat.not_lt, -Nat.not_le, -List.length_flatMap]) (by simp +contextual (disch := omega) [Nat.add_assoc, Int.add_assoc, if_pos, if_neg, -Int.not_lt, -Int.not_le, -Nat.not_lt, -Nat.not_le, -List.length_flatMap]) (g8.up (by omega) (fun j hj => rfl)) (by rw [List.length_append]; omega) ?_
    intro e' m4 x4 w1 w2 w3 w4 w5
    have w3' : e' 3 = .p x 0 := w3.trans (by simp +contextual (disch := omega) [Nat.add_assoc, Int.add_assoc, if_pos, if_neg, -Int.not_lt, -Int.not_le, -Nat.not_lt, -Nat.not_le, -List.length_flatMap])
    have c4 := w5 x (by omega) _ _ c3
    simp +contextual (disch := omega) [Nat.add_assoc, Int.add_assoc, if_pos, if_neg, -Int.not_lt, -Int.not_le, -Nat.not_lt, -Nat.not_le, -List.length_flatMap, w2, w3', c4]
    refine tcode_writer_klp t (o ++ hd ++ t.lvls.flatMap textL) hlen ih' (by simp +contextual (disch := omega) [Nat.add_assoc, Int.add_assoc, if_pos, if_neg, -Int.not_lt, -Int.not_le, -Nat.not_lt, -Nat.not_le, -List.length_flatMap, w2]) (by simp +contextual (disch := omega) [Nat.add_assoc, Int.add_assoc, if_pos, if_neg, -Int.not_lt, -Int.not_le, -Nat.not_lt, -Nat.not_le, -List.length_flatMap]) (by simp +contextual (disch := omega) [Nat.add_assoc, Int.add_assoc, if_pos, if_neg, -Int.not_lt, -Int.not_le, -Nat.not_lt, -Nat.not_le, -List.length_flatMap]) (by simp +contextual (disch := omega) [Nat.add_assoc, Int.add_assoc, if_pos, if_neg, -Int.not_lt, -Int.not_le, -Nat.not_lt, -Nat.not_le, -List.length_flatMap]) (w4.up (by omega) (fun j hj => rfl)) (by simp only [List.length_append]; omega) ?_
    intro m5 x5 y1 y2 y3
    exact hK _ _ (by omega) (by simpa only [List.append_assoc] using y2) ((k3.trans w5 (by omega)).trans y3 (by omega))
  · by_cases h1 : t.kind = 1
    · rw [if_pos h1] at hhd2 hlenH
      simp +contextual (disch := omega) [Nat.add_assoc, Int.add_assoc, if_pos, if_neg, -Int.not_lt, -Int.not_le, -Nat.not_lt, -Nat.not_le, -List.length_flatMap, c1, h1]
      rw [CallX_op (by rfl)]
      refine openg_w rfl rfl (.inl rfl) ?_
      rw [hf]
      refine tcode_writer_number.w hT (o := o ++ digs t.kind.toNat) t.n (s2 h1).1 (by have := s2 h1; omega) (g2.up (by omega) (fun j hj => rfl)) (by rw [List.length_append]; omega) ?_
      intro m2 x2 g4 g5 g6
      rw [show o ++ digs t.kind.toNat ++ digs t.n.toNat = o ++ hd by rw [hhd2]; simp] at g5
      have c2 := g6 x (by omega) _ _ c1
      have k2 : KeepC m m2 x := k1.trans g6 (by omega)
      simp +contextual (disch := omega) [Nat.add_assoc, Int.add_assoc, if_pos, if_neg, -Int.not_lt, -Int.not_le, -Nat.not_lt, -Nat.not_le, -List.length_flatMap, c2]
      refine tcode_writer_llp hT t (o ++ hd) ok r4 (by simp +contextual (disch := omega) [Nat.add_assoc, Int.add_assoc, if_pos, if_neg, -Int.not_lt, -Int.not_le, -Nat.not_lt, -Nat.not_le, -List.length_flatMap]) rfl (by simp +contextual (disch := omega) [Nat.add_assoc, Int.add_assoc, if_pos, if_neg, -Int.not_lt, -Int.not_le, -Nat.not_lt, -Nat.not_le, -List.length_flatMap]) (by simp +contextual (disch := omega) [Nat.add_assoc, Int.add_assoc, if_pos, if_neg, -Int.not_lt, -Int.not_le, -Nat.not_lt, -Nat.not_le, -List.length_flatMap]) (by simp +contextual (disch := omega) [Nat.add_assoc, Int.add_assoc, if_pos, if_neg, -Int.not_lt, -Int.not_le, -Nat.not_lt, -Nat.not_le, -List.length_flatMap]) (g5.up (by omega) (fun j hj => rfl)) (by rw [List.length_append]; omega) ?_
      intro e' m4 x4 w1 w2 w3 w4 w5
      have w3' : e' 3 = .p x 0 := w3.trans (by simp +contextual (disch := omega) [Nat.add_assoc, Int.add_assoc, if_pos, if_neg, -Int.not_lt, -Int.not_le, -Nat.not_lt, -Nat.not_le, -List.length_flatMap])
      have c4 := w5 x (by omega) _ _ c2
      simp +contextual (disch := omega) [Nat.add_assoc, Int.add_assoc, if_pos, if_neg, -Int.not_lt, -Int.not_le, -Nat.not_lt, -Nat.not_le, -List.length_flatMap, w2, w3', c4]
      refine tcode_writer_klp t (o ++ hd ++ t.lvls.flatMap textL) hlen ih' (by simp +contextual (disch := omega) [Nat.add_assoc, Int.add_assoc, if_pos, if_neg, -Int.not_lt, -Int.not_le, -Nat.not_lt, -Nat.not_le, -List.length_flatMap, w2]) (by simp +contextual (disch := omega) [Nat.add_assoc, Int.add_assoc, if_pos, if_neg, -Int.not_lt, -Int.not_le, -Nat.not_lt, -Nat.not_le, -List.length_flatMap]) (by simp +contextual (disch := omega) [Nat.add_assoc, Int.add_assoc, if_pos, if_neg, -Int.not_lt, -Int.not_le, -Nat.not_lt, -Nat.not_le, -List.length_flatMap]) (by simp +contextual (disch := omega) [Nat.add_assoc, Int.add_assoc, if_pos, if_neg, -Int.not_lt, -Int.not_le, -Nat.not_lt, -Nat.not_le, -List.length_flatMap]) (w4.up (by omega) (fun j hj => rfl)) (by simp only [List.length_append]; omega) ?_
      intro m5 x5 y1 y2 y3
      exact hK _ _ (by omega) (by simpa only [List.append_assoc] using y2) ((k2.trans w5 (by omega)).trans y3 (by omega))
    · rw [if_neg h1, if_neg h3] at hhd2 hlenH
      simp +contextual (disch := omega) [Nat.add_assoc, Int.add_assoc, if_pos, if_neg, -Int.not_lt, -Int.not_le, -Nat.not_lt, -Nat.not_le, -List.length_flatMap, c1, h1, h3]
      rw [show o ++ digs t.kind.toNat = o ++ hd by rw [hhd2]; simp] at g2
      refine tcode_writer_llp hT t (o ++ hd) ok r4 (by simp +contextual (disch := omega) [Nat.add_assoc, Int.add_assoc, if_pos, if_neg, -Int.not_lt, -Int.not_le, -Nat.not_lt, -Nat.not_le, -List.length_flatMap]) rfl (by simp +contextual (disch := omega) [Nat.add_assoc, Int.add_assoc, if_pos, if_neg, -Int.not_lt, -Int.not_le, -Nat.not_lt, -Nat.not_le, -List.length_flatMap]) (by simp +contextual (disch := omega) [Nat.add_assoc, Int.add_assoc, if_pos, if_neg, -Int.not_lt, -Int.not_le, -Nat.not_lt, -Nat.not_le, -List.length_flatMap]) (by simp +contextual (disch := omega) [Nat.add_assoc, Int.add_assoc, if_pos, if_neg, -Int.not_lt, -Int.not_le, -Nat.not_lt, -Nat.not_le, -List.length_flatMap]) (g2.up (by omega) (fun j hj => rfl)) (by rw [List.length_append]; omega) ?_
      intro e' m4 x4 w1 w2 w3 w4 w5
      have w3' : e' 3 = .p x 0 := w3.trans (by simp +contextual (disch := omega) [Nat.add_assoc, Int.add_assoc, if_pos, if_neg, -Int.not_lt, -Int.not_le, -Nat.not_lt, -Nat.not_le, -List.length_flatMap])
      have c4 := w5 x (by omega) _ _ c1
      simp +contextual (disch := omega) [Nat.add_assoc, Int.add_assoc, if_pos, if_neg, -Int.not_lt, -Int.not_le, -Nat.not_lt, -Nat.not_le, -List.length_flatMap, w2, w3', c4]
      refine tcode_writer_klp t (o ++ hd ++ t.lvls.flatMap textL) hlen ih' (by simp +contextual (disch := omega) [Nat.add_assoc, Int.add_assoc, if_pos, if_neg, -Int.not_lt, -Int.not_le, -Nat.not_lt, -Nat.not_le, -List.length_flatMap, w2]) (by simp +contextual (disch := omega) [Nat.add_assoc, Int.add_assoc, if_pos, if_neg, -Int.not_lt, -Int.not_le, -Nat.not_lt, -Nat.not_le, -List.length_flatMap]) (by simp +contextual (disch := omega) [Nat.add_assoc, Int.add_assoc, if_pos, if_neg, -Int.not_lt, -Int.not_le, -Nat.not_lt, -Nat.not_le, -List.length_flatMap]) (by simp +contextual (disch := omega) [Nat.add_assoc, Int.add_assoc, if_pos, if_neg, -Int.not_lt, -Int.not_le, -Nat.not_lt, -Nat.not_le, -List.length_flatMap]) (w4.up (by omega) (fun j hj => rfl)) (by simp only [List.length_append]; omega) ?_
      intro m5 x5 y1 y2 y3
      exact hK _ _ (by omega) (by simpa only [List.append_assoc] using y2) ((k1.trans w5 (by omega)).trans y3 (by omega))
theorem headT_len {t : Tm} {v d : Int} (h : rightT t v 5 10 d = true) (hv : v ≤ 2000) : (headT t).length ≤ 3 := by
  obtain ⟨s1, s2, s3, s4, s5, s6, s7⟩ := right_head h hv
  have h1 : ∀ n : Nat, n < 16384 → (digs n).length ≤ 2 := fun n hn => digs_len 1 (by omega)
  unfold headT
  rw [digs_one (by omega)]
  split
  · rename_i hk; have := h1 t.n.toNat (by have := s2 hk; omega); simp; omega
  · split
    · rename_i hk; rw [digs_one (n := t.n.toNat) (by have := s3 hk; omega), digs_one (by omega)]; simp
    · simp
mutual
def szT (l : Tm) : Nat := match l with | .mk _ _ _ ks => 1 + szTs ks
def szTs (l : List Tm) : Nat := match l with | [] => 0 | a :: r => szT a + szTs r
end
theorem szT_eq (t : Tm) : szT t = 1 + szTs t.kids := by cases t; simp [szT]
theorem parts_fold (m : Int) : ∀ (ks : List Tm), (∀ k ∈ ks, ∀ m : Int, (szT k : Int) ≤ partsT k m ∨ m ≤ partsT k m) → ∀ (n s : Int), (s ≤ n ∨ m ≤ n) → (s + szTs ks ≤ ks.foldl (partsF m) n ∨ m ≤ ks.foldl (partsF m) n)
  | [], _, n, s, h => by simpa [szTs] using h
  | k :: r, hk, n, s, h => by
    rw [List.foldl_cons]
    have h1 := hk k (by simp) (m - n)
    have hb := partsT_bd k (m - n)
    have := parts_fold m r (fun x hx => hk x (by simp [hx])) (partsF m n k) (s + szT k) (by unfold partsF; split <;> omega)
    simp only [szTs]
    omega
theorem parts_sz (t : Tm) : ∀ m : Int, (szT t : Int) ≤ partsT t m ∨ m ≤ partsT t m := by
  induction t using Tm.ind with
  | h t ih =>
    intro m
    have := parts_fold m t.kids ih 1 1 (.inl (by omega))
    rw [partsT_eq, szT_eq]
    omega
theorem flat_le {α : Type} {f : α → List Nat} {g : α → Nat} {c : Nat} : ∀ {l : List α}, (∀ x ∈ l, (f x).length ≤ c) → (l.flatMap f).length ≤ c * l.length
  | [], _ => by simp
  | a :: r, h => by
    have h1 := h a (by simp)
    have h2 := flat_le (f := f) (g := g) (c := c) (l := r) (fun x hx => h x (by simp [hx]))
    rw [List.flatMap_cons, List.length_append, List.length_cons, Nat.mul_succ]
    omega
theorem texts_le : ∀ {l : List Tm}, (∀ x ∈ l, (textT x).length ≤ 40960 * szT x) → (l.flatMap textT).length ≤ 40960 * szTs l
  | [], _ => by simp [szTs]
  | a :: r, h => by
    have h1 := h a (by simp)
    have h2 := texts_le (l := r) (fun x hx => h x (by simp [hx]))
    rw [List.flatMap_cons, List.length_append]
    simp only [szTs]
    omega
/-- A right term has no more bytes than there can be. -/
theorem textT_len (t : Tm) : ∀ (v d : Int), v + d ≤ 2000 → rightT t v 5 10 d = true → (textT t).length ≤ 40960 * szT t := by
  induction t using Tm.ind with
  | h t ih =>
    intro v d hv h
    obtain ⟨r1, r2, r3, r4, r5⟩ := rightT_at h
    obtain ⟨s1, s2, s3, s4, s5, s6, s7⟩ := right_head h (by omega)
    have hh := headT_len h (by omega)
    have hl := flat_le (f := textL) (g := fun _ => 0) (c := 8190) (l := t.lvls) (fun x hx => RightS_len (r4 x hx))
    have hk := texts_le (l := t.kids) (fun k hk => by
      obtain ⟨j, hj, rfl⟩ := List.getElem_of_mem hk
      have hb : bindT t.kind j ≤ 1 := by unfold bindT; split <;> omega
      exact ih _ hk (v + bindT t.kind j) (d - 1) (by omega) (r5 j hj))
    rw [textT_eq, szT_eq]
    simp only [List.length_append]
    omega
theorem RightT_right {t : Tm} (h : RightT t 1000 5 10 = true) : rightT t 1000 5 10 30 = true ∧ szT t ≤ 600 := by
  unfold RightT at h
  rw [if_neg (by omega)] at h
  simp only [Bool.and_eq_true, decide_eq_true_eq] at h
  have := parts_sz t 601
  exact ⟨h.2, by omega⟩
theorem RightT_len {t : Tm} (h : RightT t 1000 5 10 = true) : (textT t).length ≤ 24576000 := by
  obtain ⟨h1, h2⟩ := RightT_right h
  have := textT_len t 1000 30 (by omega) h1
  omega
/-- What Put answers. -/
def putTm (t : Tm) : V := if RightT t 1000 5 10 = true then .tu [.s (bs (textT t)), .i .i64 0] else .tu [.s (bs []), .i .i64 1]
theorem tcode_Put.a (t : Tm) (ok : t.Ok) : Ans ctx tcode_Put.n [.ag (cT t)] (putTm t) := by
  refine ans tcode_Put.f ?_
  unfold putTm
  have hf : ctx.frz tcode_writer_term.n = false := rfl
  have hs : ctx.frz strings_Builder_String.n = false := rfl
  by_cases hR : RightT t 1000 5 10 = true
  · rw [if_pos hR]
    have hlen := RightT_len hR
    simp +contextual (disch := omega) [Nat.add_assoc, Int.add_assoc, if_pos, if_neg, -Int.not_lt, -Int.not_le, -Nat.not_lt, -Nat.not_le, -List.length_flatMap, tcode_Put.c, ansK (term_Right.a t ok 1000 5 10), hR]
    rw [CallX_op (by rfl)]
    refine openg_w rfl rfl (.inl rfl) ?_
    rw [hf]
    refine tcode_writer_term.w (T := 74) (by decide) t ok 1000 30 (by omega) (RightT_right hR).1 [] (q := 5) ⟨.np, .ns, ?_, .inl rfl, by omega, .inl ⟨rfl, rfl⟩⟩ (by simp; omega) ?_
    · simp +contextual (disch := omega) [Nat.add_assoc, Int.add_assoc, if_pos, if_neg, -Int.not_lt, -Int.not_le, -Nat.not_lt, -Nat.not_le, -List.length_flatMap]
    intro m' x' g1 g2 g3
    obtain ⟨ad, B, b1, b2, b3, b4⟩ := id g2
    simp +contextual (disch := omega) [Nat.add_assoc, Int.add_assoc, if_pos, if_neg, -Int.not_lt, -Int.not_le, -Nat.not_lt, -Nat.not_le, -List.length_flatMap, b1]
    rw [CallX_op (by rfl)]
    refine openg_w rfl rfl (.inl rfl) ?_
    rw [hs]
    refine strings_Builder_String.w (textT t) (by rw [textT_eq]; unfold headT; simp [digs_ne]) (g2.up (by omega) (fun j hj => rfl)) (by omega) ?_
    intro m2 x2 k1 k2
    simp +contextual (disch := omega) [Nat.add_assoc, Int.add_assoc, if_pos, if_neg, -Int.not_lt, -Int.not_le, -Nat.not_lt, -Nat.not_le, -List.length_flatMap]
  · rw [if_neg hR]
    simp +contextual (disch := omega) [Nat.add_assoc, Int.add_assoc, if_pos, if_neg, -Int.not_lt, -Int.not_le, -Nat.not_lt, -Nat.not_le, -List.length_flatMap, tcode_Put.c, ansK (term_Right.a t ok 1000 5 10), hR]
end Pi


set_option linter.unusedSimpArgs false
set_option linter.unusedVariables false
namespace Pi
end Pi


set_option linter.unusedSimpArgs false
set_option linter.unusedVariables false
namespace Pi
end Pi


set_option linter.unusedSimpArgs false
set_option linter.unusedVariables false
namespace Pi
/-! What Get tells of what Put writes, and back. -/
end Pi


set_option linter.unusedSimpArgs false
set_option linter.unusedVariables false
namespace Pi
end Pi


set_option linter.unusedSimpArgs false
set_option linter.unusedVariables false
namespace Pi
end Pi


set_option linter.unusedSimpArgs false
set_option linter.unusedVariables false
namespace Pi
end Pi

