/- Contracts: levels as bytes (layer 3): the writer. -/
import Derived.Test.YtbkkigmlkafeiaaC03a
import Derived.Test.YtbkkigmlkafeiaaC01
set_option linter.unusedSimpArgs false
set_option linter.unusedVariables false
namespace Pi
mutual
/-- A right level's bytes. -/
def textL : L → List Nat
  | .mk k n ks => digs k.toNat ++ (if k = 5 ∨ k = 6 then digs n.toNat else []) ++ textLs ks
def textLs : List L → List Nat
  | [] => []
  | k :: r => textL k ++ textLs r
end
theorem textLs_eq (ks : List L) : textLs ks = ks.flatMap textL := by
  induction ks with
  | nil => rfl
  | cons k r ih => simp [textLs, ih]
theorem textL_eq (l : L) : textL l = digs l.kind.toNat ++ (if l.kind = 5 ∨ l.kind = 6 then digs l.n.toNat else []) ++ l.kids.flatMap textL := by
  cases l with
  | mk k n ks => simp only [textL, textLs_eq]; rfl
theorem digs_ne (n : Nat) : digs n ≠ [] := by
  unfold digs
  split <;> simp
/-- A builder that holds a text. -/
def Bd (T : Nat) (m : Sto) (q : Nat) (o : List Nat) (x : Nat) : Prop := ∃ ad B, m q = some (.tc T [ad, B]) ∧ (ad = .np ∨ ad = .p q 0) ∧ q < x ∧ ((o = [] ∧ B = .ns) ∨ ∃ b, b < x ∧ b ≠ q ∧ B = .ms b 0 o.length 1 ∧ m b = some (.tc 5 (ofBytes (bs o).data.toList)))
/-- What was no builder's is as it was. -/
def KeepC (m m' : Sto) (x : Nat) : Prop := ∀ j, j < x → ∀ cs r, m j = some (.cells cs r) → m' j = some (.cells cs r)
theorem KeepC.refl (m : Sto) (x : Nat) : KeepC m m x := fun _ _ _ _ h => h
theorem KeepC.trans {m m' m2 : Sto} {x y : Nat} (h : KeepC m m' x) (k : KeepC m' m2 y) (hx : x ≤ y) : KeepC m m2 x := fun j hj cs r e => k j (by omega) cs r (h j hj cs r e)
theorem Bd.up {T : Nat} {m m' : Sto} {q x x' : Nat} {o : List Nat} (h : Bd T m q o x) (hx : x ≤ x') (hm : ∀ j, j < x → m' j = m j) : Bd T m' q o x' := by
  obtain ⟨ad, B, h1, h2, h3, h4⟩ := h
  refine ⟨ad, B, by rw [hm q h3, h1], h2, by omega, ?_⟩
  rcases h4 with h4 | ⟨b, b1, b2, b3, b4⟩
  · exact .inl h4
  · exact .inr ⟨b, by omega, b2, b3, by rw [hm b b1, b4]⟩
theorem ofBytes_app (a b : List UInt8) : ofBytes (a ++ b) = ofBytes a ++ ofBytes b := by simp [ofBytes]
theorem ofBytes_len (a : List UInt8) : (ofBytes a).length = a.length := by simp [ofBytes]
theorem bs_list (a b : List Nat) : (bs (a ++ b)).data.toList = (bs a).data.toList ++ (bs b).data.toList := by simp [bs]
theorem bs_llen (a : List Nat) : (bs a).data.toList.length = a.length := by simp [bs]
theorem strings_Builder_copyCheck.w {T : Nat} (hT : List.contains [71,72,73,74] T = true) {m : Sto} {x q : Nat} {K : CR → Sto → Nat → Prop} {ad B : V} (hm : m q = some (.tc T [ad, B])) (ha : ad = .np ∨ ad = .p q 0)
    (hK : ∀ m' x', x ≤ x' → m' q = some (.tc T [.p q 0, B]) → (∀ j, j ≠ q → m' j = m j) → K (.ret (.tu [])) m' x') :
    w ctx (envOf [.p q 0]) m x [] none none (RetG ctx strings_Builder_copyCheck.c.rs K) strings_Builder_copyCheck.c.code := by
  simp at hT
  rcases ha with rfl | rfl
  · simp +contextual (disch := omega) [Nat.add_assoc, Int.add_assoc, if_pos, if_neg, -Int.not_lt, -Int.not_le, -Nat.not_lt, -Nat.not_le, -List.length_flatMap, strings_Builder_copyCheck.c, hm, hT]
    exact hK _ _ (by omega) (Sto.seq _ _ _) (fun j hj => Sto.sne _ _ _ _ hj)
  · simp +contextual (disch := omega) [Nat.add_assoc, Int.add_assoc, if_pos, if_neg, -Int.not_lt, -Int.not_le, -Nat.not_lt, -Nat.not_le, -List.length_flatMap, strings_Builder_copyCheck.c, hm]
    exact hK _ _ (by omega) hm (fun j hj => rfl)
theorem strings_Builder_WriteString.w {T : Nat} (hT : List.contains [71,72,73,74] T = true) {m : Sto} {x q : Nat} {K : CR → Sto → Nat → Prop} {o : List Nat} (t : List Nat) (ht : t ≠ []) (hB : Bd T m q o x) (hn : o.length + t.length ≤ 2147483648)
    (hK : ∀ m' x', x ≤ x' → Bd T m' q (o ++ t) x' → KeepC m m' x → K (.ret (.tu [.i .i64 t.length, .ni])) m' x') :
    w ctx (envOf [.p q 0, .s (bs t)]) m x [] none none (RetG ctx strings_Builder_WriteString.c.rs K) strings_Builder_WriteString.c.code := by
  obtain ⟨ad, B, h1, h2, h3, h4⟩ := hB
  have hf : ctx.frz strings_Builder_copyCheck.n = false := rfl
  have htl : ¬ t.length = 0 := fun h => ht (List.length_eq_zero_iff.1 h)
  simp +contextual (disch := omega) [Nat.add_assoc, Int.add_assoc, if_pos, if_neg, -Int.not_lt, -Int.not_le, -Nat.not_lt, -Nat.not_le, -List.length_flatMap, strings_Builder_WriteString.c]
  rw [CallX_op (by rfl)]
  refine openg_w rfl rfl (.inl rfl) ?_
  rw [hf]
  refine strings_Builder_copyCheck.w hT h1 h2 ?_
  intro m1 x1 g1 g2 g3
  rcases h4 with ⟨rfl, rfl⟩ | ⟨b, b1, b2, rfl, b3⟩
  · simp +contextual (disch := omega) [Nat.add_assoc, Int.add_assoc, if_pos, if_neg, -Int.not_lt, -Int.not_le, -Nat.not_lt, -Nat.not_le, -List.length_flatMap, g2, htl]
    refine hK _ _ (by omega) ⟨_, _, Sto.seq _ _ _, .inr rfl, by omega, .inr ⟨x1 + 6, by omega, by omega, by simp, ?_⟩⟩ ?_
    · rw [Sto.sne _ _ _ _ (by omega), Sto.seq]; simp
    · intro j hj cs r e
      have hq : j ≠ q := fun h => by rw [h, h1] at e; cases e
      rw [Sto.sne _ _ _ _ hq, Sto.sne _ _ _ _ (by omega), g3 j hq, e]
  · have g4 := g3 b b2
    rw [b3] at g4
    simp +contextual (disch := omega) [Nat.add_assoc, Int.add_assoc, if_pos, if_neg, -Int.not_lt, -Int.not_le, -Nat.not_lt, -Nat.not_le, -List.length_flatMap, g2, g4, htl, ofBytes_len, bs_llen]
    refine hK _ _ (by omega) ⟨_, _, Sto.seq _ _ _, .inr rfl, by omega, .inr ⟨x1 + 6, by omega, by omega, by simp, ?_⟩⟩ ?_
    · rw [Sto.sne _ _ _ _ (by omega), Sto.seq, bs_list, ofBytes_app, List.take_of_length_le (by rw [ofBytes_len, bs_llen]; exact Nat.le_refl _)]
    · intro j hj cs r e
      have hq : j ≠ q := fun h => by rw [h, h1] at e; cases e
      have hb : j ≠ b := fun h => by rw [h, b3] at e; cases e
      rw [Sto.sne _ _ _ _ hq, Sto.sne _ _ _ _ (by omega), Sto.sne _ _ _ _ hb, g3 j hq, e]
theorem lcode_write_1.w {T : Nat} (hT : List.contains [71,72,73,74] T = true) {m : Sto} {x q c : Nat} {K : CR → Sto → Nat → Prop} {o : List Nat} {r : Bool} (n : Int) (h0 : 0 ≤ n) (h9 : n ≤ 1099511627776) (hc : m c = some (.cells [.p q 0] r)) (hB : Bd T m q o x) (hn : o.length + (digs n.toNat).length ≤ 2147483648)
    (hK : ∀ m' x', x ≤ x' → Bd T m' q (o ++ digs n.toNat) x' → KeepC m m' x → K (.ret (.tu [])) m' x') :
    w ctx (envOf [.i .i64 n, .p c 0]) m x [] none none (RetG ctx lcode_write_1.c.rs K) lcode_write_1.c.code := by
  have hp := octet_Put.a n
  unfold putS at hp
  rw [if_neg (by omega)] at hp
  have hf : ctx.frz strings_Builder_WriteString.n = false := rfl
  simp +contextual (disch := omega) [Nat.add_assoc, Int.add_assoc, if_pos, if_neg, -Int.not_lt, -Int.not_le, -Nat.not_lt, -Nat.not_le, -List.length_flatMap, lcode_write_1.c, ansK hp, hc]
  rw [CallX_op (by rfl)]
  refine openg_w rfl rfl (.inl rfl) ?_
  rw [hf]
  refine strings_Builder_WriteString.w hT (digs n.toNat) (digs_ne _) (hB.up (Nat.le_add_right _ _) (fun j hj => rfl)) hn ?_
  intro m' x' k1 k2 k3
  simp +contextual (disch := omega) [Nat.add_assoc, Int.add_assoc, if_pos, if_neg, -Int.not_lt, -Int.not_le, -Nat.not_lt, -Nat.not_le, -List.length_flatMap]
  exact hK _ _ (by omega) (k2.up (by omega) (fun j hj => rfl)) (fun j hj => k3 j (by omega))
theorem lcode_write_loop {T : Nat} (l : L) {K : CR → Sto → Nat → Prop} {e : Env} {m : Sto} {x c q : Nat} (P : List Nat) (hlen : l.kids.length ≤ 9223372036854775807)
    (ih : ∀ k ∈ l.kids, ∀ (o : List Nat) {m : Sto} {x : Nat} {K : CR → Sto → Nat → Prop}, Bd T m q o x → o.length + (textL k).length ≤ 2147483648 →
      (∀ m' x', x ≤ x' → Bd T m' q (o ++ textL k) x' → KeepC m m' x → K (.ret (.tu [])) m' x') → w ctx (envOf [.p q 0, .ag (cL k)]) m x [] none none (RetG ctx lcode_write.c.rs K) lcode_write.c.code)
    (e2 : e 2 = .p c 0) (e21 : e 21 = sV cL l.kids) (e22 : e 22 = .i .i64 l.kids.length) (e23 : e 23 = .i .i64 0) (hc : m c = some (.cells [.p q 0] false)) (hcx : c < x) (hB : Bd T m q P x)
    (hn : P.length + (l.kids.flatMap textL).length ≤ 2147483648)
    (hK : ∀ m' x', x ≤ x' → Bd T m' q (P ++ l.kids.flatMap textL) x' → KeepC m m' x → K (.ret (.tu [])) m' x') :
    w ctx e m x [] none none (BlkK 0 (RetG ctx [] K)) (.loop lcode_write.b1) := by
  have hfw : ctx.frz lcode_write.n = false := rfl
  refine for_w (fun i e' m' x' => e' 2 = .p c 0 ∧ e' 21 = sV cL l.kids ∧ e' 22 = .i .i64 l.kids.length ∧ e' 23 = .i .i64 i ∧ x ≤ x' ∧ Bd T m' q (P ++ (l.kids.take i).flatMap textL) x' ∧ KeepC m m' x) l.kids.length ?_ ?_ ?_
  · exact ⟨e2, e21, e22, e23, Nat.le_refl _, by simpa using hB, .refl _ _⟩
  · rintro i e' m' x' hi ⟨g1, g2, g3, g4, g5, g6, g7⟩
    have c0 := g7 c hcx _ _ hc
    have hT : (l.kids.take (i + 1)).flatMap textL = (l.kids.take i).flatMap textL ++ textL l.kids[i] := by
      rw [List.take_succ_eq_append_getElem hi, List.flatMap_append]; simp
    have hall : l.kids.flatMap textL = (l.kids.take (i + 1)).flatMap textL ++ (l.kids.drop (i + 1)).flatMap textL := by
      rw [← List.flatMap_append, List.take_append_drop]
    have hle := congrArg List.length hall
    rw [hT] at hle
    simp only [List.length_append] at hle
    simp +contextual (disch := omega) [Nat.add_assoc, Int.add_assoc, if_pos, if_neg, -Int.not_lt, -Int.not_le, -Nat.not_lt, -Nat.not_le, -List.length_flatMap, lcode_write.b1, g1, g2, g3, g4, hi, c0]
    rw [CallX_op (by rfl)]
    refine openg_w rfl rfl (.inl rfl) ?_
    rw [hfw]
    refine ih _ (List.getElem_mem hi) (P ++ (l.kids.take i).flatMap textL) (g6.up (by omega) (fun j hj => ?_)) (by rw [List.length_append]; omega) ?_
    · simp +contextual (disch := omega) [Nat.add_assoc, Int.add_assoc, if_pos, if_neg, -Int.not_lt, -Int.not_le, -Nat.not_lt, -Nat.not_le, -List.length_flatMap]
    intro m2 x2 k1 k2 k3
    simp +contextual (disch := omega) [Nat.add_assoc, Int.add_assoc, if_pos, if_neg, -Int.not_lt, -Int.not_le, -Nat.not_lt, -Nat.not_le, -List.length_flatMap, g1, g2, g3, g4]
    refine ⟨by omega, ?_, ?_⟩
    · rw [hT, ← List.append_assoc]
      exact k2.up (by omega) (fun j hj => rfl)
    · intro j hj cs r h
      refine k3 j (by omega) cs r ?_
      have := g7 j hj cs r h
      simp +contextual (disch := omega) [Nat.add_assoc, Int.add_assoc, if_pos, if_neg, -Int.not_lt, -Int.not_le, -Nat.not_lt, -Nat.not_le, -List.length_flatMap, this]
  · rintro e' m' x' ⟨g1, g2, g3, g4, g5, g6, g7⟩
    rw [List.take_length] at g6
    simp +contextual (disch := omega) [Nat.add_assoc, Int.add_assoc, if_pos, if_neg, -Int.not_lt, -Int.not_le, -Nat.not_lt, -Nat.not_le, -List.length_flatMap, lcode_write.b1, g1, g2, g3, g4]
    exact hK _ _ (by omega) (g6.up (by omega) (fun j hj => rfl)) g7
theorem lcode_write.w {T : Nat} (hT : List.contains [71,72,73,74] T = true) (l : L) : l.Ok → ∀ (d : Int) (h : rightS l 5 10 d = true) (o : List Nat) {m : Sto} {x q : Nat} {K : CR → Sto → Nat → Prop}, Bd T m q o x → o.length + (textL l).length ≤ 2147483648 →
    (∀ m' x', x ≤ x' → Bd T m' q (o ++ textL l) x' → KeepC m m' x → K (.ret (.tu [])) m' x') →
    w ctx (envOf [.p q 0, .ag (cL l)]) m x [] none none (RetG ctx lcode_write.c.rs K) lcode_write.c.code := by
  induction l using L.ind with
  | h l ih =>
  intro ok d h o m x q K hB hn hK
  have hf : ctx.frz lcode_write_1.n = false := rfl
  have hfw : ctx.frz lcode_write.n = false := rfl
  obtain ⟨r1, r2, r3, r4⟩ := right_kid h
  have hk := right_kind h
  rw [textL_eq] at hn hK
  simp only [List.length_append] at hn
  simp +contextual (disch := omega) [Nat.add_assoc, Int.add_assoc, if_pos, if_neg, -Int.not_lt, -Int.not_le, -Nat.not_lt, -Nat.not_le, -List.length_flatMap, lcode_write.c]
  rw [CallX_op (by rfl)]
  refine openg_w rfl rfl (.inl rfl) ?_
  rw [hf]
  obtain ⟨M, hM⟩ : ∃ M, M = (m.set x (some (.cells [.p q 0] false))).set (x + 1) (some (.cells (cL l) false)) := ⟨_, rfl⟩
  rw [← hM]
  have M0 : M x = some (.cells [.p q 0] false) := by rw [hM]; simp +contextual (disch := omega) [Nat.add_assoc, Int.add_assoc, if_pos, if_neg, -Int.not_lt, -Int.not_le, -Nat.not_lt, -Nat.not_le, -List.length_flatMap]
  have M1 : M (x + 1) = some (.cells (cL l) false) := by rw [hM]; simp +contextual (disch := omega) [Nat.add_assoc, Int.add_assoc, if_pos, if_neg, -Int.not_lt, -Int.not_le, -Nat.not_lt, -Nat.not_le, -List.length_flatMap]
  have MK : KeepC m M x := fun j hj cs r e => by rw [hM, Sto.sne _ _ _ _ (by omega), Sto.sne _ _ _ _ (by omega), e]
  refine lcode_write_1.w hT (o := o) l.kind (by omega) (by omega) M0 (hB.up (by omega) (fun j hj => by rw [hM, Sto.sne _ _ _ _ (by omega), Sto.sne _ _ _ _ (by omega)])) (by omega) ?_
  intro m1 x1 g1 g2 g3
  have c0 := g3 x (by omega) _ _ M0
  have c1 := g3 (x + 1) (by omega) _ _ M1
  have k1 : KeepC m m1 x := MK.trans (x := x) (y := x + 7) g3 (by omega)
  have hlen := ok.len
  by_cases h56 : l.kind = 5 ∨ l.kind = 6
  · rw [if_pos h56] at hn hK
    have hn1 : 0 ≤ l.n ∧ l.n ≤ 10 := by
      unfold namedS at r3
      rcases h56 with h | h <;> rw [h] at r3 <;> simp at r3 <;> omega
    have hna : namedR l.kind > 0 := by unfold namedR; rcases h56 with h | h <;> rw [h] <;> simp
    simp +contextual (disch := omega) [Nat.add_assoc, Int.add_assoc, if_pos, if_neg, -Int.not_lt, -Int.not_le, -Nat.not_lt, -Nat.not_le, -List.length_flatMap, c0, c1, ansK (lcode_named.a _), hna]
    rw [CallX_op (by rfl)]
    refine openg_w rfl rfl (.inl rfl) ?_
    rw [hf]
    refine lcode_write_1.w hT (o := o ++ digs l.kind.toNat) l.n (by omega) (by omega) c0 (g2.up (by omega) (fun j hj => rfl)) (by rw [List.length_append]; omega) ?_
    intro m2 x2 g4 g5 g6
    have d0 := g6 x (by omega) _ _ c0
    have d1 := g6 (x + 1) (by omega) _ _ c1
    have k2 : KeepC m m2 x := k1.trans g6 (by omega)
    simp +contextual (disch := omega) [Nat.add_assoc, Int.add_assoc, if_pos, if_neg, -Int.not_lt, -Int.not_le, -Nat.not_lt, -Nat.not_le, -List.length_flatMap, d0, d1]
    refine lcode_write_loop l (q := q) (c := x) (o ++ digs l.kind.toNat ++ digs l.n.toNat) (by omega) (fun k hk o {m x K} => ih k hk (ok.kid hk) (d - 1) (r4 k hk) o) (by simp +contextual (disch := omega) [Nat.add_assoc, Int.add_assoc, if_pos, if_neg, -Int.not_lt, -Int.not_le, -Nat.not_lt, -Nat.not_le, -List.length_flatMap]) (by simp +contextual (disch := omega) [Nat.add_assoc, Int.add_assoc, if_pos, if_neg, -Int.not_lt, -Int.not_le, -Nat.not_lt, -Nat.not_le, -List.length_flatMap]) (by simp +contextual (disch := omega) [Nat.add_assoc, Int.add_assoc, if_pos, if_neg, -Int.not_lt, -Int.not_le, -Nat.not_lt, -Nat.not_le, -List.length_flatMap]) (by simp +contextual (disch := omega) [Nat.add_assoc, Int.add_assoc, if_pos, if_neg, -Int.not_lt, -Int.not_le, -Nat.not_lt, -Nat.not_le, -List.length_flatMap]) d0 (by omega) (g5.up (by omega) (fun j hj => rfl)) (by simp only [List.length_append]; omega) ?_
    intro m' x' h1 h2 h3
    refine hK _ _ (by omega) ?_ (k2.trans h3 (by omega))
    simpa only [List.append_assoc] using h2
  · rw [if_neg h56] at hn hK
    have hna : ¬ namedR l.kind > 0 := by unfold namedR; rw [if_neg (by omega), if_neg (by omega)]; omega
    simp +contextual (disch := omega) [Nat.add_assoc, Int.add_assoc, if_pos, if_neg, -Int.not_lt, -Int.not_le, -Nat.not_lt, -Nat.not_le, -List.length_flatMap, c0, c1, ansK (lcode_named.a _), hna]
    simp only [List.length_nil] at hn
    refine lcode_write_loop l (q := q) (c := x) (o ++ digs l.kind.toNat) (by omega) (fun k hk o {m x K} => ih k hk (ok.kid hk) (d - 1) (r4 k hk) o) (by simp +contextual (disch := omega) [Nat.add_assoc, Int.add_assoc, if_pos, if_neg, -Int.not_lt, -Int.not_le, -Nat.not_lt, -Nat.not_le, -List.length_flatMap]) (by simp +contextual (disch := omega) [Nat.add_assoc, Int.add_assoc, if_pos, if_neg, -Int.not_lt, -Int.not_le, -Nat.not_lt, -Nat.not_le, -List.length_flatMap]) (by simp +contextual (disch := omega) [Nat.add_assoc, Int.add_assoc, if_pos, if_neg, -Int.not_lt, -Int.not_le, -Nat.not_lt, -Nat.not_le, -List.length_flatMap]) (by simp +contextual (disch := omega) [Nat.add_assoc, Int.add_assoc, if_pos, if_neg, -Int.not_lt, -Int.not_le, -Nat.not_lt, -Nat.not_le, -List.length_flatMap]) c0 (by omega) (g2.up (by omega) (fun j hj => rfl)) (by simp only [List.length_append]; omega) ?_
    intro m' x' h1 h2 h3
    refine hK _ _ (by omega) ?_ (k1.trans h3 (by omega))
    simpa only [List.append_assoc, List.append_nil] using h2
theorem strings_Builder_String.w {T : Nat} {m : Sto} {x q : Nat} {K : CR → Sto → Nat → Prop} (o : List Nat) (ho : o ≠ []) (hB : Bd T m q o x) (hn : o.length ≤ 2147483648)
    (hK : ∀ m' x', x ≤ x' → KeepC m m' x → K (.ret (.s (bs o))) m' x') :
    w ctx (envOf [.p q 0]) m x [] none none (RetG ctx strings_Builder_String.c.rs K) strings_Builder_String.c.code := by
  obtain ⟨ad, B, h1, h2, h3, ⟨h4, h5⟩ | ⟨b, b1, b2, rfl, b3⟩⟩ := hB
  · exact absurd h4 ho
  have hol : 0 < o.length := List.length_pos_iff.2 ho
  have hlb : (ofBytes (bs o).data.toList).length = o.length := by rw [ofBytes_len, bs_llen]
  have hx : bytesX (List.take o.length (ofBytes (bs o).data.toList)) = some (bs o).data.toList := by rw [List.take_of_length_le (by omega), bytesX_of]
  have hy : ({ data := (bs o).data.toList.toArray } : ByteArray) = bs o := by simp
  simp +contextual (disch := omega) [Nat.add_assoc, Int.add_assoc, if_pos, if_neg, -Int.not_lt, -Int.not_le, -Nat.not_lt, -Nat.not_le, -List.length_flatMap, strings_Builder_String.c, h1, b3, hlb, hx, hy]
  refine hK _ _ (by omega) ?_
  intro j hj cs r e
  have hb : j ≠ b := fun h => by rw [h, b3] at e; cases e
  rw [Sto.sne _ _ _ _ hb, e]
theorem lcode_Put.a (l : L) (ok : l.Ok) (hlen : RightS l 5 10 = true → (textL l).length ≤ 2147483648) : Ans ctx lcode_Put.n [.ag (cL l)] (if RightS l 5 10 = true then .tu [.s (bs (textL l)), .i .i64 0] else .tu [.s (bs []), .i .i64 1]) := by
  refine ans lcode_Put.f ?_
  have hf : ctx.frz lcode_write.n = false := rfl
  have hs : ctx.frz strings_Builder_String.n = false := rfl
  by_cases hR : RightS l 5 10 = true
  · rw [if_pos hR]
    simp +contextual (disch := omega) [Nat.add_assoc, Int.add_assoc, if_pos, if_neg, -Int.not_lt, -Int.not_le, -Nat.not_lt, -Nat.not_le, -List.length_flatMap, lcode_Put.c, ansK (level_Right.a l ok 5 10), hR]
    rw [CallX_op (by rfl)]
    refine openg_w rfl rfl (.inl rfl) ?_
    rw [hf]
    have hr : ∃ d, rightS l 5 10 d = true := by
      refine ⟨12, ?_⟩
      unfold RightS at hR
      split at hR
      · cases hR
      · simpa using (Bool.and_eq_true _ _ ▸ hR).2
    obtain ⟨d, hd⟩ := hr
    refine lcode_write.w (T := 72) (by decide) l ok d hd [] (q := 5) ⟨.np, .ns, ?_, .inl rfl, by omega, .inl ⟨rfl, rfl⟩⟩ (by simpa using hlen hR) ?_
    · simp +contextual (disch := omega) [Nat.add_assoc, Int.add_assoc, if_pos, if_neg, -Int.not_lt, -Int.not_le, -Nat.not_lt, -Nat.not_le, -List.length_flatMap]
    intro m' x' g1 g2 g3
    simp +contextual (disch := omega) [Nat.add_assoc, Int.add_assoc, if_pos, if_neg, -Int.not_lt, -Int.not_le, -Nat.not_lt, -Nat.not_le, -List.length_flatMap]
    rw [CallX_op (by rfl)]
    refine openg_w rfl rfl (.inl rfl) ?_
    rw [hs]
    refine strings_Builder_String.w (textL l) (by rw [textL_eq]; simp [digs_ne]) (g2.up (by omega) (fun j hj => rfl)) (hlen hR) ?_
    intro m2 x2 k1 k2
    simp +contextual (disch := omega) [Nat.add_assoc, Int.add_assoc, if_pos, if_neg, -Int.not_lt, -Int.not_le, -Nat.not_lt, -Nat.not_le, -List.length_flatMap]
  · rw [if_neg hR]
    simp +contextual (disch := omega) [Nat.add_assoc, Int.add_assoc, if_pos, if_neg, -Int.not_lt, -Int.not_le, -Nat.not_lt, -Nat.not_le, -List.length_flatMap, lcode_Put.c, ansK (level_Right.a l ok 5 10), hR]
theorem textL_cons_len (l : L) : 0 < (textL l).length := by
  rw [textL_eq]
  have := List.length_pos_iff.2 (digs_ne l.kind.toNat)
  simp only [List.length_append]
  omega
theorem right_small (l : L) : ∀ {d : Int}, rightS l 5 10 d = true → l.kind.toNat < 7 ∧ (l.kind = 5 ∨ l.kind = 6 → l.n.toNat < 10) := by
  intro d h
  have hk := right_kind h
  have r3 := (right_kid h).2.2.1
  refine ⟨by omega, fun h56 => ?_⟩
  unfold namedS at r3
  rcases h56 with h | h <;> rw [h] at r3 <;> simp at r3 <;> omega
theorem digs_one {n : Nat} (h : n < 128) : digs n = [n] := digs_lt h
/-- No more bytes than there can be. -/
theorem textL_len (l : L) : ∀ {d : Nat}, rightS l 5 10 d = true → (textL l).length + 2 ≤ 2 ^ (d + 1) := by
  induction l using L.ind with
  | h l ih =>
    intro d h
    obtain ⟨r1, r2, r3, r4⟩ := right_kid h
    obtain ⟨s1, s2⟩ := right_small l h
    have hk := right_kind h
    obtain ⟨d, rfl⟩ : ∃ k, d = k + 1 := ⟨d - 1, by omega⟩
    have hp : 1 ≤ 2 ^ d := Nat.one_le_two_pow
    have hp1 : 2 ^ (d + 1) = 2 * 2 ^ d := by rw [Nat.pow_succ]; omega
    have hp2 : 2 ^ (d + 1 + 1) = 4 * 2 ^ d := by rw [Nat.pow_succ, hp1]; omega
    have hkid : ∀ k ∈ l.kids, (textL k).length + 2 ≤ 2 ^ (d + 1) := fun k hk => ih k hk (d := d) (by have := r4 k hk; rwa [show ((d + 1 : Nat) : Int) - 1 = (d : Nat) by omega] at this)
    rw [textL_eq, digs_one (by omega)]
    rw [hp2]
    rw [hp1] at hkid
    generalize 2 ^ d = P at *
    generalize l.kind = k at *
    generalize l.n = n at *
    generalize l.kids = ks at *
    match ks, r2, hkid with
    | [], r2, hkid =>
      by_cases h56 : k = 5 ∨ k = 6
      · rw [if_pos h56, digs_one (by have := s2 h56; omega)]; simp; omega
      · rw [if_neg h56]; simp; omega
    | [a], r2, hkid =>
      have ha := hkid a (by simp)
      have : ¬ (k = 5 ∨ k = 6) := fun h => by rcases h with h | h <;> rw [h] at r2 <;> simp [kidsS] at r2
      rw [if_neg this]; simp; omega
    | [a, b], r2, hkid =>
      have ha := hkid a (by simp)
      have hb := hkid b (by simp)
      have : ¬ (k = 5 ∨ k = 6) := fun h => by rcases h with h | h <;> rw [h] at r2 <;> simp [kidsS] at r2
      rw [if_neg this]; simp; omega
    | _ :: _ :: _ :: _, r2, _ =>
      have := kidsS_le k
      simp at r2
      omega
theorem RightS_right {l : L} (h : RightS l 5 10 = true) : rightS l 5 10 12 = true := by
  unfold RightS at h
  split at h
  · cases h
  · simpa using (Bool.and_eq_true _ _ ▸ h).2
theorem RightS_len {l : L} (h : RightS l 5 10 = true) : (textL l).length ≤ 8190 := by
  have := textL_len l (d := 12) (RightS_right h)
  omega
end Pi


set_option linter.unusedSimpArgs false
set_option linter.unusedVariables false
namespace Pi
def rrV : RR → V
  | .ok v a _ => .tu [.ag (cL v), .i .i64 a, .i .i64 0]
  | .bad e => .tu [.ag (cL (.mk 0 0 [])), .i .i64 0, .i .i64 e]
/-- What Get tells. -/
def getLV (l : List Nat) (p : Int) : V := if p < 0 ∨ p > l.length then rrV (.bad 1) else rrV (rdL l 12 p.toNat 0)
theorem ta_yes (z u : V) : taV 230 z (.fc 230 u) true = some (.tu [u, .b true], []) := rfl
theorem ta_no (z : V) : taV 230 z .ni true = some (.tu [z, .b false], []) := rfl
theorem lcode_Get.a (l : List Nat) (p : Int) (hl : Byt l) (hn : l.length ≤ 10000) : Ans ctx lcode_Get.n [.s (bs l), .i .i64 p] (getLV l p) := by
  refine ansg lcode_Get.f ?_
  have hz : V.ag [.i .i64 0, .i .i64 0, .sl [] 0] = .ag (cL (.mk 0 0 [])) := by rw [cL_at]; rfl
  unfold getLV
  by_cases hp1 : p < 0
  · rw [if_pos (.inl hp1)]
    simp +contextual (disch := omega) [Nat.add_assoc, Int.add_assoc, if_pos, if_neg, -Int.not_lt, -Int.not_le, -Nat.not_lt, -Nat.not_le, -List.length_flatMap, lcode_Get.c, hp1, rrV, hz]
  · by_cases hp2 : p > l.length
    · rw [if_pos (.inr hp2)]
      simp +contextual (disch := omega) [Nat.add_assoc, Int.add_assoc, if_pos, if_neg, -Int.not_lt, -Int.not_le, -Nat.not_lt, -Nat.not_le, -List.length_flatMap, lcode_Get.c, hp1, hp2, rrV, hz]
    · rw [if_neg (by omega)]
      obtain ⟨a, rfl⟩ : ∃ a : Nat, p = a := ⟨p.toNat, by omega⟩
      have hp2' : ¬ (a : Int) > l.length := hp2
      have hfl : ctx.frz lcode_reader_level.n = false := rfl
      simp +contextual (disch := omega) [Nat.add_assoc, Int.add_assoc, if_pos, if_neg, -Int.not_lt, -Int.not_le, -Nat.not_lt, -Nat.not_le, -List.length_flatMap, lcode_Get.c, hp1, hp2', Int.toNat_natCast]
      rw [CallX_op (by rfl)]
      refine openg_w rfl rfl (.inl rfl) ?_
      rw [hfl]
      refine lcode_reader_level.w l hl hn 15 12 (by omega) a 0 (by omega) (by simp +contextual (disch := omega) [Nat.add_assoc, Int.add_assoc, if_pos, if_neg, -Int.not_lt, -Int.not_le, -Nat.not_lt, -Nat.not_le, -List.length_flatMap]) (fun j hj => by simp +contextual (disch := omega) [Nat.add_assoc, Int.add_assoc, if_pos, if_neg, -Int.not_lt, -Int.not_le, -Nat.not_lt, -Nat.not_le, -List.length_flatMap]) ?_
      generalize rdL l 12 a 0 = r
      cases r with
      | bad e =>
        intro m' x' a' n' h1 h2 h3 _
        have t0 : m' 0 = some (.cells [.i .i64 0, .i .i64 0, .ns] false) := by rw [h2 0 (by omega) (by omega)]; simp +contextual (disch := omega) [Nat.add_assoc, Int.add_assoc, if_pos, if_neg, -Int.not_lt, -Int.not_le, -Nat.not_lt, -Nat.not_le, -List.length_flatMap]
        have t1 : m' 1 = some (.cells [.i .i64 0] false) := by rw [h2 1 (by omega) (by omega)]; simp +contextual (disch := omega) [Nat.add_assoc, Int.add_assoc, if_pos, if_neg, -Int.not_lt, -Int.not_le, -Nat.not_lt, -Nat.not_le, -List.length_flatMap]
        have t2 : m' 2 = some (.cells [.i .i64 0] false) := by rw [h2 2 (by omega) (by omega)]; simp +contextual (disch := omega) [Nat.add_assoc, Int.add_assoc, if_pos, if_neg, -Int.not_lt, -Int.not_le, -Nat.not_lt, -Nat.not_le, -List.length_flatMap]
        simp +contextual (disch := omega) [Nat.add_assoc, Int.add_assoc, if_pos, if_neg, -Int.not_lt, -Int.not_le, -Nat.not_lt, -Nat.not_le, -List.length_flatMap]
        refine df_w lcode_Get_1.f ?_
        simp +contextual (disch := omega) [Nat.add_assoc, Int.add_assoc, if_pos, if_neg, -Int.not_lt, -Int.not_le, -Nat.not_lt, -Nat.not_le, -List.length_flatMap, lcode_Get_1.c, ta_yes, ta_no, stopV, t0, t1, t2, rrV, hz]
      | ok v a' n' =>
        intro cs m' x' h1 h2 h3 _ h5 _ h7
        have t0 : m' 0 = some (.cells [.i .i64 0, .i .i64 0, .ns] false) := by rw [h2 0 (by omega) (by omega)]; simp +contextual (disch := omega) [Nat.add_assoc, Int.add_assoc, if_pos, if_neg, -Int.not_lt, -Int.not_le, -Nat.not_lt, -Nat.not_le, -List.length_flatMap]
        have t1 : m' 1 = some (.cells [.i .i64 0] false) := by rw [h2 1 (by omega) (by omega)]; simp +contextual (disch := omega) [Nat.add_assoc, Int.add_assoc, if_pos, if_neg, -Int.not_lt, -Int.not_le, -Nat.not_lt, -Nat.not_le, -List.length_flatMap]
        have t2 : m' 2 = some (.cells [.i .i64 0] false) := by rw [h2 2 (by omega) (by omega)]; simp +contextual (disch := omega) [Nat.add_assoc, Int.add_assoc, if_pos, if_neg, -Int.not_lt, -Int.not_le, -Nat.not_lt, -Nat.not_le, -List.length_flatMap]
        simp +contextual (disch := omega) [Nat.add_assoc, Int.add_assoc, if_pos, if_neg, -Int.not_lt, -Int.not_le, -Nat.not_lt, -Nat.not_le, -List.length_flatMap, t0, t1, t2, h3]
        refine df_w lcode_Get_1.f ?_
        have ht : cs.take 3 = cs := List.take_of_length_le (by omega)
        simp +contextual (disch := omega) [Nat.add_assoc, Int.add_assoc, if_pos, if_neg, -Int.not_lt, -Int.not_le, -Nat.not_lt, -Nat.not_le, -List.length_flatMap, lcode_Get_1.c, ta_yes, ta_no, t0, t1, t2, rrV, ht]
        generalize hM : Sto.set _ (x' + 13) _ = M
        obtain ⟨ids, e⟩ := h7 M (fun j q1 q2 => by rw [← hM]; simp +contextual (disch := omega) [Nat.add_assoc, Int.add_assoc, if_pos, if_neg, -Int.not_lt, -Int.not_le, -Nat.not_lt, -Nat.not_le, -List.length_flatMap]) 40 (by omega)
        simp +contextual (disch := omega) [Nat.add_assoc, Int.add_assoc, if_pos, if_neg, -Int.not_lt, -Int.not_le, -Nat.not_lt, -Nat.not_le, -List.length_flatMap, e]
end Pi


set_option linter.unusedSimpArgs false
set_option linter.unusedVariables false
namespace Pi
end Pi


set_option linter.unusedSimpArgs false
set_option linter.unusedVariables false
namespace Pi
/-! What Get tells of what Put writes, and back. -/
theorem getR_digs (n : Nat) : ∀ (k a : Nat) (r : List Nat), k + (digs n).length ≤ 6 → (k = 0 ∨ n ≠ 0) → a + n * 128 ^ k ≤ 1099511627776 → getR (digs n ++ r) k a = (a + n * 128 ^ k, k + (digs n).length, 0) := by
  induction n using digs.induct with
  | case1 n h =>
    intro k a r h1 h2 h3
    rw [digs_lt h] at h1 ⊢
    simp only [List.length_cons, List.length_nil] at h1
    simp only [List.cons_append, List.nil_append, getR, List.length_cons, List.length_nil]
    rw [if_neg (by omega), if_pos h, if_neg (by omega)]
  | case2 n h ih =>
    intro k a r h1 h2 h3
    rw [digs_ge (by omega)] at h1 ⊢
    simp only [List.length_cons] at h1
    simp only [List.cons_append, getR, List.length_cons]
    rw [if_neg (by omega), if_neg (by omega)]
    have e1 : (n % 128 + 128) % 128 = n % 128 := by omega
    have e2 : a + n % 128 * 128 ^ k + n / 128 * 128 ^ (k + 1) = a + n * 128 ^ k := by
      have : n = n % 128 + 128 * (n / 128) := by omega
      calc a + n % 128 * 128 ^ k + n / 128 * 128 ^ (k + 1) = a + (n % 128 + 128 * (n / 128)) * 128 ^ k := by
            rw [Nat.pow_succ, Nat.add_mul, ← Nat.add_assoc, Nat.mul_comm 128 (n / 128), Nat.mul_assoc, Nat.mul_comm 128 (128 ^ k)]
        _ = a + n * 128 ^ k := by rw [← this]
    rw [e1, ih (k + 1) _ r (by omega) (by omega) (by rw [e2]; exact h3), e2]
    simp only [Prod.mk.injEq, true_and, and_true]
    omega
end Pi


set_option linter.unusedSimpArgs false
set_option linter.unusedVariables false
namespace Pi
/-- Two lists, pair by pair. -/
def zipAll {α β : Type} (p : α → β → Bool) : List α → List β → Bool
  | [], [] => true
  | a :: r, b :: s => p a b && zipAll p r s
  | _, _ => false
theorem zipAll_len {α β : Type} {p : α → β → Bool} : ∀ {l : List α} {m : List β}, l.length ≠ m.length → zipAll p l m = false
  | [], [], h => absurd rfl h
  | [], _ :: _, _ => rfl
  | _ :: _, [], _ => rfl
  | a :: r, b :: s, h => by
    simp only [zipAll]
    rw [zipAll_len (by simpa using h)]
    simp
theorem zipAll_false {α β : Type} {p : α → β → Bool} : ∀ {l : List α} {m : List β} {i : Nat} (h1 : i < l.length) (h2 : i < m.length), p l[i] m[i] = false → zipAll p l m = false
  | a :: r, b :: s, 0, h1, h2, h => by simp at h; simp [zipAll, h]
  | a :: r, b :: s, i + 1, h1, h2, h => by
    simp only [zipAll]
    rw [zipAll_false (i := i) (by simpa using h1) (by simpa using h2) (by simpa using h)]
    simp
theorem zipAll_true {α β : Type} {p : α → β → Bool} : ∀ {l : List α} {m : List β}, l.length = m.length → (∀ (i : Nat) (h1 : i < l.length) (h2 : i < m.length), p l[i] m[i] = true) → zipAll p l m = true
  | [], [], _, _ => rfl
  | a :: r, b :: s, h, k => by
    simp only [zipAll, Bool.and_eq_true]
    exact ⟨k 0 (by simp) (by simp), zipAll_true (by simpa using h) (fun i h1 h2 => k (i + 1) (by simpa using h1) (by simpa using h2))⟩
  | [], _ :: _, h, _ => by simp at h
  | _ :: _, [], h, _ => by simp at h
mutual
def sameS (a b : L) : Bool := match a, b with
  | .mk k n ks, .mk k' n' ks' => decide (k = k') && decide (n = n') && sameL ks ks'
def sameL (a b : List L) : Bool := match a, b with
  | [], [] => true
  | x :: r, y :: s => sameS x y && sameL r s
  | [], _ :: _ => false
  | _ :: _, [] => false
end
theorem sameL_eq (a b : List L) : sameL a b = zipAll sameS a b := by
  induction a generalizing b with
  | nil => cases b <;> simp [sameL, zipAll]
  | cons x r ih => cases b <;> simp [sameL, zipAll, ih]
theorem sameS_eq (a b : L) : sameS a b = (decide (a.kind = b.kind) && decide (a.n = b.n) && zipAll sameS a.kids b.kids) := by
  cases a; cases b
  simp only [sameS, sameL_eq]
  rfl
theorem zipAll_eq {α : Type} {p : α → α → Bool} : ∀ {l m : List α}, (∀ a ∈ l, ∀ b, p a b = true → a = b) → zipAll p l m = true → l = m
  | [], [], _, _ => rfl
  | a :: r, b :: s, h, k => by
    simp only [zipAll, Bool.and_eq_true] at k
    rw [h a (by simp) b k.1, zipAll_eq (fun x hx => h x (by simp [hx])) k.2]
  | [], _ :: _, _, k => by simp [zipAll] at k
  | _ :: _, [], _, k => by simp [zipAll] at k
theorem sameS_iff (a : L) : ∀ b, sameS a b = true ↔ a = b := by
  induction a using L.ind with
  | h a ih =>
    intro b
    rw [sameS_eq]
    simp only [Bool.and_eq_true, decide_eq_true_eq]
    constructor
    · rintro ⟨⟨h1, h2⟩, h3⟩
      have := zipAll_eq (fun x hx y => (ih x hx y).1) h3
      cases a; cases b
      simp at h1 h2 this
      subst h1 h2 this
      rfl
    · rintro rfl
      exact ⟨⟨rfl, rfl⟩, zipAll_true rfl fun i h1 h2 => (ih _ (List.getElem_mem h1) _).2 rfl⟩
@[simp] theorem sameS_refl (a : L) : sameS a a = true := (sameS_iff a a).2 rfl

theorem ref02_Same.a (a : L) : a.Ok → ∀ b : L, b.Ok → Ans ctx ref02_Same.n [.ag (cL a), .ag (cL b)] (.b (sameS a b)) := by
  induction a using L.ind with
  | h a ih =>
  intro oka b okb
  refine ans ref02_Same.f ?_
  rw [sameS_eq]
  have hla := oka.len
  by_cases h1 : a.kind = b.kind ∧ a.n = b.n ∧ a.kids.length = b.kids.length
  · obtain ⟨h1, h2, h3⟩ := h1
    simp +contextual (disch := omega) [Nat.add_assoc, Int.add_assoc, if_pos, if_neg, -Int.not_lt, -Int.not_le, -Nat.not_lt, -Nat.not_le, -List.length_flatMap, ref02_Same.c, h1, h2, h3]
    refine for_w (fun i e m x => e 2 = .p 0 0 ∧ e 3 = .p 1 0 ∧ m 0 = some (.cells (cL a) false) ∧ m 1 = some (.cells (cL b) false) ∧ e 5 = .i .i64 i ∧ ∀ (j : Nat) (h1 : j < a.kids.length) (h2 : j < b.kids.length), j < i → sameS a.kids[j] b.kids[j] = true) a.kids.length ?_ ?_ ?_
    · simp +contextual (disch := omega) [Nat.add_assoc, Int.add_assoc, if_pos, if_neg, -Int.not_lt, -Int.not_le, -Nat.not_lt, -Nat.not_le, -List.length_flatMap]
    · rintro i e m x hi ⟨g1, g2, g3, g4, g5, g6⟩
      have hi' : i < b.kids.length := by omega
      have hk := ih a.kids[i] (List.getElem_mem hi) (oka.at hi) b.kids[i] (okb.at hi')
      cases hp : sameS a.kids[i] b.kids[i] with
      | true =>
        rw [hp] at hk
        simp +contextual (disch := omega) [Nat.add_assoc, Int.add_assoc, if_pos, if_neg, -Int.not_lt, -Int.not_le, -Nat.not_lt, -Nat.not_le, -List.length_flatMap, ref02_Same.b1, g1, g2, g3, g4, g5, hi, hi', ansK hk]
        intro j h1 h2 h3
        by_cases hj : j = i
        · subst hj; exact hp
        · exact g6 j h1 h2 (by omega)
      | false =>
        rw [hp] at hk
        simp +contextual (disch := omega) [Nat.add_assoc, Int.add_assoc, if_pos, if_neg, -Int.not_lt, -Int.not_le, -Nat.not_lt, -Nat.not_le, -List.length_flatMap, ref02_Same.b1, g1, g2, g3, g4, g5, hi, hi', ansK hk, zipAll_false hi hi' hp]
    · rintro e m x ⟨g1, g2, g3, g4, g5, g6⟩
      have := zipAll_true (p := sameS) h3 (fun j h1 h2 => g6 j h1 h2 h1)
      simp +contextual (disch := omega) [Nat.add_assoc, Int.add_assoc, if_pos, if_neg, -Int.not_lt, -Int.not_le, -Nat.not_lt, -Nat.not_le, -List.length_flatMap, ref02_Same.b1, g1, g2, g3, g4, g5, this]
  · have hf : (decide (a.kind = b.kind) && decide (a.n = b.n) && zipAll sameS a.kids b.kids) = false := by
      by_cases q1 : a.kind = b.kind
      · by_cases q2 : a.n = b.n
        · rw [zipAll_len (fun q3 => h1 ⟨q1, q2, q3⟩)]; simp
        · simp [q2]
      · simp [q1]
    rw [hf]
    simp +contextual (disch := omega) [Nat.add_assoc, Int.add_assoc, if_pos, if_neg, -Int.not_lt, -Int.not_le, -Nat.not_lt, -Nat.not_le, -List.length_flatMap, ref02_Same.c]
end Pi


set_option linter.unusedSimpArgs false
set_option linter.unusedVariables false
namespace Pi
end Pi


set_option linter.unusedSimpArgs false
set_option linter.unusedVariables false
namespace Pi
end Pi


set_option linter.unusedSimpArgs false
set_option linter.unusedVariables false
namespace Pi
/-- What a maker picks. -/
def pickS (l : List Nat) (i n : Nat) : Nat := (l[i]?.getD 0) % n
theorem pickS_lt (l : List Nat) (i n : Nat) (h : 0 < n) : pickS l i n < n := Nat.mod_lt _ h
theorem pick_w {m : Sto} {x a : Nat} {l : List Nat} {i n : Nat} {K : CR → Sto → Nat → Prop} (hm : m a = some (.cells [sV cU l, .i .i64 i] false)) (hb : Byt l) (hi : i ≤ 1000000000) (hn : 0 < n ∧ n ≤ 256)
    (hK : ∀ x', x ≤ x' → K (.ret (.i .i64 (pickS l i n : Nat))) (m.set a (some (.cells [sV cU l, .i .i64 ((i + 1 : Nat) : Int)] false))) x') :
    wpCall ctx (.fn (.func law02_Maker_Pick.n) [] []) [.p a 0, .i .i64 n] m x K := by
  refine open_w law02_Maker_Pick.f rfl (.inl rfl) ?_
  by_cases h : i < l.length
  · have hbi := hb.at h
    have hp : ((pickS l i n : Nat) : Int) = (l[i] : Int) % n := by simp [pickS, h]
    simp +contextual (disch := omega) [Nat.add_assoc, Int.add_assoc, if_pos, if_neg, -Int.not_lt, -Int.not_le, -Nat.not_lt, -Nat.not_le, -List.length_flatMap, law02_Maker_Pick.c, hm, h, Int.tmod_eq_emod_of_nonneg]
    have := hK (x + 34) (by omega)
    rw [hp] at this
    simpa using this
  · have hp : pickS l i n = 0 := by simp [pickS, List.getElem?_eq_none (by omega : l.length ≤ i)]
    rw [hp] at hK
    simp +contextual (disch := omega) [Nat.add_assoc, Int.add_assoc, if_pos, if_neg, -Int.not_lt, -Int.not_le, -Nat.not_lt, -Nat.not_le, -List.length_flatMap, law02_Maker_Pick.c, hm]
    have := hK (x + 20) (by omega)
    simpa using this

/-- What a maker makes: a level, and how many it has picked then. -/
def mkS (l : List Nat) (p q : Nat) : Nat → Nat → L × Nat
  | 0, i =>
    let k := pickS l i 10 % 4
    if (k = 1 ∧ 0 < p) ∨ (k = 2 ∧ 0 < p ∧ q = 0) then (.mk 5 (pickS l (i + 1) p : Nat) [], i + 2)
    else if (k = 2 ∨ k = 3) ∧ 0 < q then (.mk 6 (pickS l (i + 1) q : Nat) [], i + 2)
    else (.mk 1 0 [], i + 1)
  | d + 1, i =>
    let k := if d = 0 then pickS l i 10 % 4 else pickS l i 10
    if (k = 1 ∧ 0 < p) ∨ (k = 2 ∧ 0 < p ∧ q = 0) then (.mk 5 (pickS l (i + 1) p : Nat) [], i + 2)
    else if (k = 2 ∨ k = 3) ∧ 0 < q then (.mk 6 (pickS l (i + 1) q : Nat) [], i + 2)
    else if k < 4 then (.mk 1 0 [], i + 1)
    else
      let r := mkS l p q d (i + 1)
      let s := mkS l p q d r.2
      if k < 6 then (.mk 2 0 [r.1], r.2) else if k < 8 then (.mk 3 0 [r.1, s.1], s.2) else (.mk 4 0 [r.1, s.1], s.2)
theorem mkS_bd (l : List Nat) (p q d : Nat) : ∀ i, i ≤ (mkS l p q d i).2 ∧ (mkS l p q d i).2 ≤ i + 4 ^ (d + 1) := by
  induction d with
  | zero =>
    intro i
    simp only [mkS]
    split
    · simp
    · split <;> simp
  | succ d ih =>
    intro i
    have h0 : 4 ≤ 4 ^ (d + 1) := by
      calc 4 = 4 ^ 1 := rfl
        _ ≤ 4 ^ (d + 1) := Nat.pow_le_pow_right (by omega) (by omega)
    have h1 := ih (i + 1)
    have h2 := ih (mkS l p q d (i + 1)).2
    have h3 : 4 ^ (d + 1 + 1) = 4 * 4 ^ (d + 1) := by rw [Nat.pow_succ, Nat.mul_comm]
    simp only [mkS]
    generalize hk : (if d = 0 then pickS l i 10 % 4 else pickS l i 10) = k
    split
    · simp only; omega
    · split
      · simp only; omega
      · split
        · simp only; omega
        · split
          · simp only; omega
          · split <;> (simp only; omega)

theorem mkS_eq (l : List Nat) (p q d i : Nat) : mkS l p q (d + 1) i =
    (let k := if d = 0 then pickS l i 10 % 4 else pickS l i 10
    if (k = 1 ∧ 0 < p) ∨ (k = 2 ∧ 0 < p ∧ q = 0) then (.mk 5 (pickS l (i + 1) p : Nat) [], i + 2)
    else if (k = 2 ∨ k = 3) ∧ 0 < q then (.mk 6 (pickS l (i + 1) q : Nat) [], i + 2)
    else if k < 4 then (.mk 1 0 [], i + 1)
    else
      let r := mkS l p q d (i + 1)
      let s := mkS l p q d r.2
      if k < 6 then (.mk 2 0 [r.1], r.2) else if k < 8 then (.mk 3 0 [r.1, s.1], s.2) else (.mk 4 0 [r.1, s.1], s.2)) := rfl
/-- What is asked of what stands behind a maker's call. -/
def MadeK (l : List Nat) (a x d : Nat) (m : Sto) (r : L × Nat) (K : CR → Sto → Nat → Prop) : Prop :=
  ∀ cs m' x', cs.length = 3 → m' a = some (.cells [sV cU l, .i .i64 (r.2 : Nat)] false) → (∀ j, j < x → j ≠ a → m' j = m j) → x ≤ x' → FzAt m' x x' d cs (cL r.1) → K (.ret (.ag cs)) m' x'

set_option maxHeartbeats 4000000 in
theorem made_w (l : List Nat) (hb : Byt l) (p q : Nat) (hp : p ≤ 256) (hq : q ≤ 256) (a : Nat) : ∀ (d : Nat), d ≤ 10 → ∀ (i : Nat) {m : Sto} {x : Nat} {K : CR → Sto → Nat → Prop}, i + 4 ^ (d + 2) ≤ 1000000000 → a < x → m a = some (.cells [sV cU l, .i .i64 i] false) →
    MadeK l a x (d + 2) m (mkS l p q (d + 1) i) K →
    wpCall ctx (.fn (.func law02_Maker_Level.n) [] []) [.p a 0, .i .i64 p, .i .i64 q, .i .i64 ((d : Int) + 1)] m x K := by
  intro d
  induction d using Nat.strongRecOn with
  | ind d ih =>
  intro hd i m x K hi hax hm hK
  have h4 : 16 ≤ 4 ^ (d + 2) := by
    calc 16 = 4 ^ 2 := rfl
      _ ≤ 4 ^ (d + 2) := Nat.pow_le_pow_right (by omega) (by omega)
  refine open_w law02_Maker_Level.f rfl (.inl rfl) ?_
  simp +contextual (disch := omega) [Nat.add_assoc, Int.add_assoc, if_pos, if_neg, -Int.not_lt, -Int.not_le, -Nat.not_lt, -Nat.not_le, -List.length_flatMap, law02_Maker_Level.c]
  refine pick_w (l := l) (i := i) (n := 10) (by simp +contextual (disch := omega) [Nat.add_assoc, Int.add_assoc, if_pos, if_neg, -Int.not_lt, -Int.not_le, -Nat.not_lt, -Nat.not_le, -List.length_flatMap, hm]) hb (by omega) (by omega) ?_
  intro x1 hx1
  have hk := pickS_lt l i 10 (by omega)
  rw [mkS_eq] at hK
  generalize pickS l i 10 = k at hk hK
  have hk4 : ((k : Int)).tmod 4 = ((k % 4 : Nat) : Int) := by rw [Int.tmod_eq_emod_of_nonneg (by omega)]; omega
  generalize hkk : (if d = 0 then k % 4 else k) = kk at hK
  simp only at hK
  have hkc : (d = 0 ∧ (k : Int).tmod 4 = kk ∧ kk < 4) ∨ (0 < d ∧ (k : Int) = kk ∧ kk < 10) := by
    rcases Nat.eq_zero_or_pos d with h0 | h0
    · rw [if_pos h0] at hkk
      exact .inl ⟨h0, by rw [hk4, hkk], by omega⟩
    · rw [if_neg (by omega)] at hkk
      exact .inr ⟨h0, by omega, by omega⟩
  clear hk4 hkk
  have leaf : ∀ (m' : Sto) (x' : Nat) (u v : Int), FzAt m' x x' (d + 2) [.i .i64 u, .i .i64 v, .ns] (cL (.mk u v [])) := fun m' x' u v m2 _ dd _ => ⟨[], by simp⟩
  by_cases hA : (kk = 1 ∧ 0 < p) ∨ (kk = 2 ∧ 0 < p ∧ q = 0)
  · rw [if_pos hA] at hK
    have fin : ∀ (m' : Sto) (x' : Nat), x < x' → m' x = some (.cells [.i .i64 5, .i .i64 (pickS l (i + 1) p : Nat), .ns] false) → m' a = some (.cells [sV cU l, .i .i64 ((i + 2 : Nat) : Int)] false) → (∀ j, j < x → j ≠ a → m' j = m j) → K (.ret (.ag [.i .i64 5, .i .i64 (pickS l (i + 1) p : Nat), .ns])) m' x' :=
      fun m' x' h1 h2 h3 h4 => hK _ m' x' rfl h3 h4 (by omega) (leaf _ _ _ _)
    rcases hA with ⟨hA1, hA2⟩ | ⟨hA1, hA2, hA3⟩ <;> rcases hkc with ⟨h0, hk4, h5⟩ | ⟨h0, hk4, h5⟩
    all_goals (simp +contextual (disch := omega) [Nat.add_assoc, Int.add_assoc, if_pos, if_neg, -Int.not_lt, -Int.not_le, -Nat.not_lt, -Nat.not_le, -List.length_flatMap, hm, hk4])
    all_goals refine pick_w (l := l) (i := i + 1) (n := p) (by simp +contextual (disch := omega) [Nat.add_assoc, Int.add_assoc, if_pos, if_neg, -Int.not_lt, -Int.not_le, -Nat.not_lt, -Nat.not_le, -List.length_flatMap]) hb (by omega) (by omega) ?_
    all_goals intro x2 hx2
    all_goals (simp +contextual (disch := omega) [Nat.add_assoc, Int.add_assoc, if_pos, if_neg, -Int.not_lt, -Int.not_le, -Nat.not_lt, -Nat.not_le, -List.length_flatMap])
    all_goals refine fin _ _ (by omega) (by simp +contextual (disch := omega) [Nat.add_assoc, Int.add_assoc, if_pos, if_neg, -Int.not_lt, -Int.not_le, -Nat.not_lt, -Nat.not_le, -List.length_flatMap]) (by simp +contextual (disch := omega) [Nat.add_assoc, Int.add_assoc, if_pos, if_neg, -Int.not_lt, -Int.not_le, -Nat.not_lt, -Nat.not_le, -List.length_flatMap]) (by simp +contextual (disch := omega) [Nat.add_assoc, Int.add_assoc, if_pos, if_neg, -Int.not_lt, -Int.not_le, -Nat.not_lt, -Nat.not_le, -List.length_flatMap])
  · rw [if_neg hA] at hK
    by_cases hB : (kk = 2 ∨ kk = 3) ∧ 0 < q
    · rw [if_pos hB] at hK
      have fin : ∀ (m' : Sto) (x' : Nat), x < x' → m' x = some (.cells [.i .i64 6, .i .i64 (pickS l (i + 1) q : Nat), .ns] false) → m' a = some (.cells [sV cU l, .i .i64 ((i + 2 : Nat) : Int)] false) → (∀ j, j < x → j ≠ a → m' j = m j) → K (.ret (.ag [.i .i64 6, .i .i64 (pickS l (i + 1) q : Nat), .ns])) m' x' :=
        fun m' x' h1 h2 h3 h4 => hK _ m' x' rfl h3 h4 (by omega) (leaf _ _ _ _)
      obtain ⟨hB1, hB2⟩ := hB
      rcases hB1 with hB1 | hB1 <;> rcases Nat.eq_zero_or_pos p with h6 | h6 <;> rcases hkc with ⟨h0, hk4, h5⟩ | ⟨h0, hk4, h5⟩
      all_goals (simp +contextual (disch := omega) [Nat.add_assoc, Int.add_assoc, if_pos, if_neg, -Int.not_lt, -Int.not_le, -Nat.not_lt, -Nat.not_le, -List.length_flatMap, hm, hk4])
      all_goals refine pick_w (l := l) (i := i + 1) (n := q) (by simp +contextual (disch := omega) [Nat.add_assoc, Int.add_assoc, if_pos, if_neg, -Int.not_lt, -Int.not_le, -Nat.not_lt, -Nat.not_le, -List.length_flatMap]) hb (by omega) (by omega) ?_
      all_goals intro x2 hx2
      all_goals (simp +contextual (disch := omega) [Nat.add_assoc, Int.add_assoc, if_pos, if_neg, -Int.not_lt, -Int.not_le, -Nat.not_lt, -Nat.not_le, -List.length_flatMap])
      all_goals refine fin _ _ (by omega) (by simp +contextual (disch := omega) [Nat.add_assoc, Int.add_assoc, if_pos, if_neg, -Int.not_lt, -Int.not_le, -Nat.not_lt, -Nat.not_le, -List.length_flatMap]) (by simp +contextual (disch := omega) [Nat.add_assoc, Int.add_assoc, if_pos, if_neg, -Int.not_lt, -Int.not_le, -Nat.not_lt, -Nat.not_le, -List.length_flatMap]) (by simp +contextual (disch := omega) [Nat.add_assoc, Int.add_assoc, if_pos, if_neg, -Int.not_lt, -Int.not_le, -Nat.not_lt, -Nat.not_le, -List.length_flatMap])
    · rw [if_neg hB] at hK
      by_cases hC : kk < 4
      · rw [if_pos hC] at hK
        have fin : ∀ (m' : Sto) (x' : Nat), x < x' → m' a = some (.cells [sV cU l, .i .i64 ((i + 1 : Nat) : Int)] false) → (∀ j, j < x → j ≠ a → m' j = m j) → K (.ret (.ag [.i .i64 1, .i .i64 0, .ns])) m' x' :=
          fun m' x' h1 h3 h4 => hK _ m' x' rfl h3 h4 (by omega) (leaf _ _ _ _)
        rcases (by omega : kk = 0 ∨ kk = 1 ∨ kk = 2 ∨ kk = 3) with hC1 | hC1 | hC1 | hC1 <;> rcases hkc with ⟨h0, hk4, h5⟩ | ⟨h0, hk4, h5⟩
        all_goals (simp +contextual (disch := omega) [Nat.add_assoc, Int.add_assoc, if_pos, if_neg, -Int.not_lt, -Int.not_le, -Nat.not_lt, -Nat.not_le, -List.length_flatMap, hm, hk4])
        all_goals refine fin _ _ (by omega) (by simp +contextual (disch := omega) [Nat.add_assoc, Int.add_assoc, if_pos, if_neg, -Int.not_lt, -Int.not_le, -Nat.not_lt, -Nat.not_le, -List.length_flatMap]) (by simp +contextual (disch := omega) [Nat.add_assoc, Int.add_assoc, if_pos, if_neg, -Int.not_lt, -Int.not_le, -Nat.not_lt, -Nat.not_le, -List.length_flatMap])
      · rw [if_neg hC] at hK
        rcases hkc with ⟨h0, hk4, h5⟩ | ⟨h0, hk4, h5⟩
        · omega
        obtain ⟨d, rfl⟩ : ∃ e, d = e + 1 := ⟨d - 1, by omega⟩
        have h44 : 4 ^ (d + 1 + 2) = 4 * 4 ^ (d + 2) := by rw [Nat.pow_succ, Nat.mul_comm]
        have hdd : (d : Int) + 2 - 1 = d + 1 := by omega
        by_cases hD : kk < 6
        · rw [if_pos hD] at hK
          simp +contextual (disch := omega) [Nat.add_assoc, Int.add_assoc, if_pos, if_neg, -Int.not_lt, -Int.not_le, -Nat.not_lt, -Nat.not_le, -List.length_flatMap, hm, hk4, hdd]
          refine ih d (by omega) (by omega) (i + 1) (by omega) (by omega) (by simp +contextual (disch := omega) [Nat.add_assoc, Int.add_assoc, if_pos, if_neg, -Int.not_lt, -Int.not_le, -Nat.not_lt, -Nat.not_le, -List.length_flatMap]) ?_
          intro cs m1 x2 q1 q2 q3 q4 q5
          have ht : cs.take 3 = cs := List.take_of_length_le (by omega)
          have q3x := q3 x (by omega) (by omega)
          simp (disch := omega) at q3x
          generalize mkS l p q (d + 1) (i + 1) = r1 at hK q2 q5
          simp +contextual (disch := omega) [Nat.add_assoc, Int.add_assoc, if_pos, if_neg, -Int.not_lt, -Int.not_le, -Nat.not_lt, -Nat.not_le, -List.length_flatMap, q1, q3x, ht]
          refine hK _ _ _ rfl (by simp +contextual (disch := omega) [Nat.add_assoc, Int.add_assoc, if_pos, if_neg, -Int.not_lt, -Int.not_le, -Nat.not_lt, -Nat.not_le, -List.length_flatMap, q2]) (fun j h1 h2 => ?_) (by omega) ?_
          · have e2 := q3 j (by omega) h2
            simp +contextual (disch := omega) [Nat.add_assoc, Int.add_assoc, if_pos, if_neg, -Int.not_lt, -Int.not_le, -Nat.not_lt, -Nat.not_le, -List.length_flatMap, e2]
          · have z2 := (q5.low (lo' := x + 1) (by omega)).ms (esz := 3) (n := 1) (m' := (m1.set x2 (some (.cells cs false))).set x (some (.cells [.i .i64 2, .i .i64 0, .ms x2 0 1 3] false))) (x' := x2 + 3) (a := x2) (ro := false) (cs := cs) (by simp +contextual (disch := omega) [Nat.add_assoc, Int.add_assoc, if_pos, if_neg, -Int.not_lt, -Int.not_le, -Nat.not_lt, -Nat.not_le, -List.length_flatMap]) (by simp +contextual (disch := omega) [Nat.add_assoc, Int.add_assoc, if_pos, if_neg, -Int.not_lt, -Int.not_le, -Nat.not_lt, -Nat.not_le, -List.length_flatMap]) (by omega) (by omega) (by omega) (by simp)
            have z3 := (FzAt.fr (m := _) (lo := x + 1) (x := x2 + 3) (k := d + 1 + 2) (cs := [.i .i64 2, .i .i64 0]) (by simp)).app z2
            rw [cL_at]
            simpa [sV] using z3.low (lo' := x) (by omega)
        · rw [if_neg hD] at hK
          by_cases hE : kk < 8
          · rw [if_pos hE] at hK
            simp +contextual (disch := omega) [Nat.add_assoc, Int.add_assoc, if_pos, if_neg, -Int.not_lt, -Int.not_le, -Nat.not_lt, -Nat.not_le, -List.length_flatMap, hm, hk4, hdd]
            refine ih d (by omega) (by omega) (i + 1) (by omega) (by omega) (by simp +contextual (disch := omega) [Nat.add_assoc, Int.add_assoc, if_pos, if_neg, -Int.not_lt, -Int.not_le, -Nat.not_lt, -Nat.not_le, -List.length_flatMap]) ?_
            intro cs m1 x2 q1 q2 q3 q4 q5
            have ht : cs.take 3 = cs := List.take_of_length_le (by omega)
            simp +contextual (disch := omega) [Nat.add_assoc, Int.add_assoc, if_pos, if_neg, -Int.not_lt, -Int.not_le, -Nat.not_lt, -Nat.not_le, -List.length_flatMap, q1, hdd]
            have hb1 := mkS_bd l p q (d + 1) (i + 1)
            have hb2 : 4 ^ (d + 1 + 1) = 4 ^ (d + 2) := rfl
            have hdr : (cs ++ [V.i .i64 0, .i .i64 0, .ns]).drop 6 = [] := List.drop_of_length_le (by simp; omega)
            generalize mkS l p q (d + 1) (i + 1) = r1 at hK q2 q5 hb1
            refine ih d (by omega) (by omega) r1.2 (by omega) (by omega) q2 ?_
            intro cs2 m2 x3 p1 p2 p3 p4 p5
            have ht2 : cs2.take 3 = cs2 := List.take_of_length_le (by omega)
            have e1 := (p3 x (by omega) (by omega)).trans (q3 x (by omega) (by omega))
            simp (disch := omega) at e1
            generalize mkS l p q (d + 1) r1.2 = r2 at hK p2 p5
            simp +contextual (disch := omega) [Nat.add_assoc, Int.add_assoc, if_pos, if_neg, -Int.not_lt, -Int.not_le, -Nat.not_lt, -Nat.not_le, -List.length_flatMap, q1, p1, ht, ht2, e1, hdr]
            refine hK _ _ _ rfl (by simp +contextual (disch := omega) [Nat.add_assoc, Int.add_assoc, if_pos, if_neg, -Int.not_lt, -Int.not_le, -Nat.not_lt, -Nat.not_le, -List.length_flatMap, p2]) (fun j h1 h2 => ?_) (by omega) ?_
            · have e2 := (p3 j (by omega) h2).trans (q3 j (by omega) h2)
              simp +contextual (disch := omega) [Nat.add_assoc, Int.add_assoc, if_pos, if_neg, -Int.not_lt, -Int.not_le, -Nat.not_lt, -Nat.not_le, -List.length_flatMap, e2]
            · have z := (q5.low (lo' := x + 1) (by omega)).up (x' := x3) (m' := m2) (by omega) (Nat.le_refl _) (fun j h1 h2 => p3 j (by omega) (by omega))
              have z2 := (z.app (p5.low (by omega))).ms (esz := 3) (n := 2) (m' := (m2.set x3 (some (.cells (cs ++ cs2) false))).set x (some (.cells [.i .i64 3, .i .i64 0, .ms x3 0 2 3] false))) (x' := x3 + 3) (a := x3) (ro := false) (cs := cs ++ cs2) (by simp +contextual (disch := omega) [Nat.add_assoc, Int.add_assoc, if_pos, if_neg, -Int.not_lt, -Int.not_le, -Nat.not_lt, -Nat.not_le, -List.length_flatMap]) (by simp +contextual (disch := omega) [Nat.add_assoc, Int.add_assoc, if_pos, if_neg, -Int.not_lt, -Int.not_le, -Nat.not_lt, -Nat.not_le, -List.length_flatMap]) (by omega) (by omega) (by omega) (by simp)
              have z3 := (FzAt.fr (m := _) (lo := x + 1) (x := x3 + 3) (k := d + 1 + 2) (cs := [.i .i64 3, .i .i64 0]) (by simp)).app z2
              rw [cL_at]
              simpa [sV] using z3.low (lo' := x) (by omega)
          · rw [if_neg hE] at hK
            simp +contextual (disch := omega) [Nat.add_assoc, Int.add_assoc, if_pos, if_neg, -Int.not_lt, -Int.not_le, -Nat.not_lt, -Nat.not_le, -List.length_flatMap, hm, hk4, hdd]
            refine ih d (by omega) (by omega) (i + 1) (by omega) (by omega) (by simp +contextual (disch := omega) [Nat.add_assoc, Int.add_assoc, if_pos, if_neg, -Int.not_lt, -Int.not_le, -Nat.not_lt, -Nat.not_le, -List.length_flatMap]) ?_
            intro cs m1 x2 q1 q2 q3 q4 q5
            have ht : cs.take 3 = cs := List.take_of_length_le (by omega)
            simp +contextual (disch := omega) [Nat.add_assoc, Int.add_assoc, if_pos, if_neg, -Int.not_lt, -Int.not_le, -Nat.not_lt, -Nat.not_le, -List.length_flatMap, q1, hdd]
            have hb1 := mkS_bd l p q (d + 1) (i + 1)
            have hb2 : 4 ^ (d + 1 + 1) = 4 ^ (d + 2) := rfl
            have hdr : (cs ++ [V.i .i64 0, .i .i64 0, .ns]).drop 6 = [] := List.drop_of_length_le (by simp; omega)
            generalize mkS l p q (d + 1) (i + 1) = r1 at hK q2 q5 hb1
            refine ih d (by omega) (by omega) r1.2 (by omega) (by omega) q2 ?_
            intro cs2 m2 x3 p1 p2 p3 p4 p5
            have ht2 : cs2.take 3 = cs2 := List.take_of_length_le (by omega)
            have e1 := (p3 x (by omega) (by omega)).trans (q3 x (by omega) (by omega))
            simp (disch := omega) at e1
            generalize mkS l p q (d + 1) r1.2 = r2 at hK p2 p5
            simp +contextual (disch := omega) [Nat.add_assoc, Int.add_assoc, if_pos, if_neg, -Int.not_lt, -Int.not_le, -Nat.not_lt, -Nat.not_le, -List.length_flatMap, q1, p1, ht, ht2, e1, hdr]
            refine hK _ _ _ rfl (by simp +contextual (disch := omega) [Nat.add_assoc, Int.add_assoc, if_pos, if_neg, -Int.not_lt, -Int.not_le, -Nat.not_lt, -Nat.not_le, -List.length_flatMap, p2]) (fun j h1 h2 => ?_) (by omega) ?_
            · have e2 := (p3 j (by omega) h2).trans (q3 j (by omega) h2)
              simp +contextual (disch := omega) [Nat.add_assoc, Int.add_assoc, if_pos, if_neg, -Int.not_lt, -Int.not_le, -Nat.not_lt, -Nat.not_le, -List.length_flatMap, e2]
            · have z := (q5.low (lo' := x + 1) (by omega)).up (x' := x3) (m' := m2) (by omega) (Nat.le_refl _) (fun j h1 h2 => p3 j (by omega) (by omega))
              have z2 := (z.app (p5.low (by omega))).ms (esz := 3) (n := 2) (m' := (m2.set x3 (some (.cells (cs ++ cs2) false))).set x (some (.cells [.i .i64 4, .i .i64 0, .ms x3 0 2 3] false))) (x' := x3 + 3) (a := x3) (ro := false) (cs := cs ++ cs2) (by simp +contextual (disch := omega) [Nat.add_assoc, Int.add_assoc, if_pos, if_neg, -Int.not_lt, -Int.not_le, -Nat.not_lt, -Nat.not_le, -List.length_flatMap]) (by simp +contextual (disch := omega) [Nat.add_assoc, Int.add_assoc, if_pos, if_neg, -Int.not_lt, -Int.not_le, -Nat.not_lt, -Nat.not_le, -List.length_flatMap]) (by omega) (by omega) (by omega) (by simp)
              have z3 := (FzAt.fr (m := _) (lo := x + 1) (x := x3 + 3) (k := d + 1 + 2) (cs := [.i .i64 4, .i .i64 0]) (by simp)).app z2
              rw [cL_at]
              simpa [sV] using z3.low (lo' := x) (by omega)
end Pi


set_option linter.unusedSimpArgs false
set_option linter.unusedVariables false
namespace Pi
theorem mkS_ok (l : List Nat) (p q : Nat) (hp : p ≤ 256) (hq : q ≤ 256) (d : Nat) : ∀ i, (mkS l p q d i).1.Ok := by
  have lf : ∀ (k : Int) (n : Nat), 0 ≤ k ∧ k ≤ 10 → n ≤ 256 → (L.mk k n []).Ok := fun k n h1 h2 => .mk (by simp) (by omega) (by omega) (by simp)
  have pk : ∀ i n, n ≤ 256 → pickS l i n ≤ 256 ∨ n = 0 := fun i n hn => by
    rcases Nat.eq_zero_or_pos n with h | h
    · exact .inr h
    · have := pickS_lt l i n h; omega
  induction d with
  | zero =>
    intro i
    simp only [mkS]
    split
    · rename_i h; rcases pk (i + 1) p hp with h1 | h1
      · exact lf _ _ (by omega) h1
      · omega
    · split
      · rename_i h; rcases pk (i + 1) q hq with h1 | h1
        · exact lf _ _ (by omega) h1
        · omega
      · exact lf 1 0 (by omega) (by omega)
  | succ d ih =>
    intro i
    rw [mkS_eq]
    simp only
    generalize (if d = 0 then pickS l i 10 % 4 else pickS l i 10) = k
    split
    · rename_i h; rcases pk (i + 1) p hp with h1 | h1
      · exact lf _ _ (by omega) h1
      · omega
    · split
      · rename_i h; rcases pk (i + 1) q hq with h1 | h1
        · exact lf _ _ (by omega) h1
        · omega
      · split
        · exact lf 1 0 (by omega) (by omega)
        · split
          · exact .mk (by simp) (by simp) (by simp) (by simpa using ih _)
          · split
            · exact .mk (by simp) (by simp) (by simp) (by simpa using ⟨ih _, ih _⟩)
            · exact .mk (by simp) (by simp) (by simp) (by simpa using ⟨ih _, ih _⟩)
end Pi

