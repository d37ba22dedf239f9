/- Contracts: terms as bytes (layer 14): the writer. -/
import Derived.Test.YtbkkigmlkafeiaaC14o
import Derived.Test.YtbkkigmlkafeiaaC03f
set_option linter.unusedSimpArgs false
set_option linter.unusedVariables false
namespace Pi
/-- The numbers that a term begins with. -/
def headT (t : Tm) : List Nat := digs t.kind.toNat ++ (if t.kind = 1 then digs t.n.toNat else if t.kind = 3 then digs t.n.toNat ++ digs t.lvls.length else [])
mutual
/-- A right term's bytes. -/
def textT : Tm → List Nat
  | .mk k n ls ks => headT (.mk k n ls []) ++ ls.flatMap textL ++ textTs ks
def textTs : List Tm → List Nat
  | [] => []
  | k :: r => textT k ++ textTs r
end
theorem textTs_eq (ks : List Tm) : textTs ks = ks.flatMap textT := by
  induction ks with
  | nil => rfl
  | cons k r ih => simp [textTs, ih]
theorem textT_eq (t : Tm) : textT t = headT t ++ t.lvls.flatMap textL ++ t.kids.flatMap textT := by
  cases t with
  | mk k n ls ks => simp only [textT, textTs_eq]; rfl
theorem tcode_writer_number.w {T : Nat} (hT : List.contains [71,72,73,74] T = true) {m : Sto} {x q : Nat} {K : CR → Sto → Nat → Prop} {o : List Nat} (n : Int) (h0 : 0 ≤ n) (h9 : n ≤ 1099511627776) (hB : Bd T m q o x) (hn : o.length + (digs n.toNat).length ≤ 2147483648)
    (hK : ∀ m' x', x ≤ x' → Bd T m' q (o ++ digs n.toNat) x' → KeepC m m' x → K (.ret (.tu [])) m' x') :
    w ctx (envOf [.p q 0, .i .i64 n]) m x [] none none (RetG ctx tcode_writer_number.c.rs K) tcode_writer_number.c.code := by
  have hp := octet_Put.a n
  unfold putS at hp
  rw [if_neg (by omega)] at hp
  have hf : ctx.frz strings_Builder_WriteString.n = false := rfl
  obtain ⟨ad, B, b1, b2, b3, b4⟩ := id hB
  simp +contextual (disch := omega) [Nat.add_assoc, Int.add_assoc, if_pos, if_neg, -Int.not_lt, -Int.not_le, -Nat.not_lt, -Nat.not_le, -List.length_flatMap, tcode_writer_number.c, ansK hp, b1]
  rw [CallX_op (by rfl)]
  refine openg_w rfl rfl (.inl rfl) ?_
  rw [hf]
  refine strings_Builder_WriteString.w hT (digs n.toNat) (digs_ne _) (hB.up (Nat.le_add_right _ _) (fun j hj => rfl)) hn ?_
  intro m' x' k1 k2 k3
  simp +contextual (disch := omega) [Nat.add_assoc, Int.add_assoc, if_pos, if_neg, -Int.not_lt, -Int.not_le, -Nat.not_lt, -Nat.not_le, -List.length_flatMap]
  exact hK _ _ (by omega) (k2.up (by omega) (fun j hj => rfl)) (fun j hj => k3 j (by omega))
/-- What is right is so, kid by kid. -/
theorem rightT_at {t : Tm} {v p q d : Int} (h : rightT t v p q d = true) : 0 < d ∧ (t.kids.length : Int) = kidsT t.kind ∧ namedT t v = true ∧ (∀ l ∈ t.lvls, RightS l p q = true) ∧ ∀ (j : Nat) (h : j < t.kids.length), rightT t.kids[j] (v + bindT t.kind j) p q (d - 1) = true := by
  rw [rightT_eq] at h
  simp only [Bool.and_eq_true, decide_eq_true_eq, Bool.not_eq_true', List.any_eq_false, Bool.not_eq_false] at h
  refine ⟨h.1.1.1.1, h.1.1.1.2, h.1.1.2, fun l hl => by simpa using h.1.2 l hl, fun j hj => by have := rightTs_true.1 h.2 j hj; rwa [Nat.zero_add] at this⟩
theorem tcode_writer_llp {T : Nat} (hT : List.contains [71,72,73,74] T = true) (t : Tm) {Q : X → S → Prop} {e : Env} {m : Sto} {x q : Nat} (P : List Nat) (ok : t.Ok) (hR : ∀ l ∈ t.lvls, RightS l 5 10 = true)
    (e0 : e 0 = .p q 0) (e3 : e 3 = e 3) (e34 : e 34 = sV cL t.lvls) (e35 : e 35 = .i .i64 t.lvls.length) (e36 : e 36 = .i .i64 0) (hB : Bd T m q P x)
    (hn : P.length + (t.lvls.flatMap textL).length ≤ 2147483648)
    (hQ : ∀ e' m' x', x ≤ x' → e' 0 = .p q 0 → e' 3 = e 3 → Bd T m' q (P ++ t.lvls.flatMap textL) x' → KeepC m m' x → Q (.exit 1) ⟨e', m', x', [], none, none⟩) :
    w ctx e m x [] none none Q (.loop tcode_writer_term.b1) := by
  have hf : ctx.frz strings_Builder_WriteString.n = false := rfl
  have hlen := ok.llen
  generalize hE3 : e 3 = E3 at *
  refine for_w (fun i e' m' x' => e' 0 = .p q 0 ∧ e' 3 = E3 ∧ e' 34 = sV cL t.lvls ∧ e' 35 = .i .i64 t.lvls.length ∧ e' 36 = .i .i64 i ∧ x ≤ x' ∧ Bd T m' q (P ++ (t.lvls.take i).flatMap textL) x' ∧ KeepC m m' x) t.lvls.length ?_ ?_ ?_
  · exact ⟨e0, hE3, e34, e35, e36, Nat.le_refl _, by simpa using hB, .refl _ _⟩
  · rintro i e' m' x' hi ⟨g0, gE, g1, g2, g3, g4, g5, g6⟩
    have hT2 : (t.lvls.take (i + 1)).flatMap textL = (t.lvls.take i).flatMap textL ++ textL t.lvls[i] := by
      rw [List.take_succ_eq_append_getElem hi, List.flatMap_append]; simp
    have hall : t.lvls.flatMap textL = (t.lvls.take (i + 1)).flatMap textL ++ (t.lvls.drop (i + 1)).flatMap textL := by
      rw [← List.flatMap_append, List.take_append_drop]
    have hle := congrArg List.length hall
    rw [hT2] at hle
    simp only [List.length_append] at hle
    have hRi := hR _ (List.getElem_mem hi)
    have hp := lcode_Put.a t.lvls[i] (ok.lat hi) (fun h => by have := RightS_len h; omega)
    rw [if_pos hRi] at hp
    obtain ⟨ad, B, b1, b2, b3, b4⟩ := id g5
    simp +contextual (disch := omega) [Nat.add_assoc, Int.add_assoc, if_pos, if_neg, -Int.not_lt, -Int.not_le, -Nat.not_lt, -Nat.not_le, -List.length_flatMap, tcode_writer_term.b1, g0, gE, g1, g2, g3, hi, ansK hp, b1]
    rw [CallX_op (by rfl)]
    refine openg_w rfl rfl (.inl rfl) ?_
    rw [hf]
    refine strings_Builder_WriteString.w (o := P ++ (t.lvls.take i).flatMap textL) hT (textL t.lvls[i]) (by rw [textL_eq]; simp [digs_ne]) (g5.up (by omega) (fun j hj => ?_)) (by rw [List.length_append]; omega) ?_
    · simp +contextual (disch := omega) [Nat.add_assoc, Int.add_assoc, if_pos, if_neg, -Int.not_lt, -Int.not_le, -Nat.not_lt, -Nat.not_le, -List.length_flatMap]
    intro m2 x2 k1 k2 k3
    simp +contextual (disch := omega) [Nat.add_assoc, Int.add_assoc, if_pos, if_neg, -Int.not_lt, -Int.not_le, -Nat.not_lt, -Nat.not_le, -List.length_flatMap, g0, gE, g1, g2, g3]
    refine ⟨by omega, ?_, ?_⟩
    · rw [hT2, ← List.append_assoc]
      exact k2.up (by omega) (fun j hj => rfl)
    · intro j hj cs r h
      refine k3 j (by omega) cs r ?_
      have := g6 j hj cs r h
      simp +contextual (disch := omega) [Nat.add_assoc, Int.add_assoc, if_pos, if_neg, -Int.not_lt, -Int.not_le, -Nat.not_lt, -Nat.not_le, -List.length_flatMap, this]
  · rintro e' m' x' ⟨g0, gE, g1, g2, g3, g4, g5, g6⟩
    rw [List.take_length] at g5
    simp +contextual (disch := omega) [Nat.add_assoc, Int.add_assoc, if_pos, if_neg, -Int.not_lt, -Int.not_le, -Nat.not_lt, -Nat.not_le, -List.length_flatMap, tcode_writer_term.b1, g0, gE, g1, g2, g3]
    exact hQ _ _ _ (by omega) (by simp +contextual (disch := omega) [Nat.add_assoc, Int.add_assoc, if_pos, if_neg, -Int.not_lt, -Int.not_le, -Nat.not_lt, -Nat.not_le, -List.length_flatMap, g0]) (by simp +contextual (disch := omega) [Nat.add_assoc, Int.add_assoc, if_pos, if_neg, -Int.not_lt, -Int.not_le, -Nat.not_lt, -Nat.not_le, -List.length_flatMap, gE]) (g5.up (by omega) (fun j hj => rfl)) g6
theorem tcode_writer_klp {T : Nat} (t : Tm) {K : CR → Sto → Nat → Prop} {e : Env} {m : Sto} {x q : Nat} (P : List Nat) (hlen : t.kids.length ≤ 9223372036854775807)
    (ih : ∀ k ∈ t.kids, ∀ (o : List Nat) {m : Sto} {x : Nat} {K : CR → Sto → Nat → Prop}, Bd T m q o x → o.length + (textT k).length ≤ 2147483648 →
      (∀ m' x', x ≤ x' → Bd T m' q (o ++ textT k) x' → KeepC m m' x → K (.ret (.tu [])) m' x') → w ctx (envOf [.p q 0, .ag (cT k)]) m x [] none none (RetG ctx tcode_writer_term.c.rs K) tcode_writer_term.c.code)
    (e2 : e 0 = .p q 0) (e21 : e 52 = sV cT t.kids) (e22 : e 53 = .i .i64 t.kids.length) (e23 : e 54 = .i .i64 0) (hB : Bd T m q P x)
    (hn : P.length + (t.kids.flatMap textT).length ≤ 2147483648)
    (hK : ∀ m' x', x ≤ x' → Bd T m' q (P ++ t.kids.flatMap textT) x' → KeepC m m' x → K (.ret (.tu [])) m' x') :
    w ctx e m x [] none none (BlkK 3 (RetG ctx [] K)) (.loop tcode_writer_term.b2) := by
  have hfw : ctx.frz tcode_writer_term.n = false := rfl
  refine for_w (fun i e' m' x' => e' 0 = .p q 0 ∧ e' 52 = sV cT t.kids ∧ e' 53 = .i .i64 t.kids.length ∧ e' 54 = .i .i64 i ∧ x ≤ x' ∧ Bd T m' q (P ++ (t.kids.take i).flatMap textT) x' ∧ KeepC m m' x) t.kids.length ?_ ?_ ?_
  · exact ⟨e2, e21, e22, e23, Nat.le_refl _, by simpa using hB, .refl _ _⟩
  · rintro i e' m' x' hi ⟨g1, g2, g3, g4, g5, g6, g7⟩
    have hT : (t.kids.take (i + 1)).flatMap textT = (t.kids.take i).flatMap textT ++ textT t.kids[i] := by
      rw [List.take_succ_eq_append_getElem hi, List.flatMap_append]; simp
    have hall : t.kids.flatMap textT = (t.kids.take (i + 1)).flatMap textT ++ (t.kids.drop (i + 1)).flatMap textT := by
      rw [← List.flatMap_append, List.take_append_drop]
    have hle := congrArg List.length hall
    rw [hT] at hle
    simp only [List.length_append] at hle
    simp +contextual (disch := omega) [Nat.add_assoc, Int.add_assoc, if_pos, if_neg, -Int.not_lt, -Int.not_le, -Nat.not_lt, -Nat.not_le, -List.length_flatMap, tcode_writer_term.b2, g1, g2, g3, g4, hi]
    rw [CallX_op (by rfl)]
    refine openg_w rfl rfl (.inl rfl) ?_
    rw [hfw]
    refine ih _ (List.getElem_mem hi) (P ++ (t.kids.take i).flatMap textT) (g6.up (by omega) (fun j hj => ?_)) (by rw [List.length_append]; omega) ?_
    · simp +contextual (disch := omega) [Nat.add_assoc, Int.add_assoc, if_pos, if_neg, -Int.not_lt, -Int.not_le, -Nat.not_lt, -Nat.not_le, -List.length_flatMap]
    intro m2 x2 k1 k2 k3
    simp +contextual (disch := omega) [Nat.add_assoc, Int.add_assoc, if_pos, if_neg, -Int.not_lt, -Int.not_le, -Nat.not_lt, -Nat.not_le, -List.length_flatMap, g1, g2, g3, g4]
    refine ⟨by omega, ?_, ?_⟩
    · rw [hT, ← List.append_assoc]
      exact k2.up (by omega) (fun j hj => rfl)
    · intro j hj cs r h
      refine k3 j (by omega) cs r ?_
      have := g7 j hj cs r h
      simp +contextual (disch := omega) [Nat.add_assoc, Int.add_assoc, if_pos, if_neg, -Int.not_lt, -Int.not_le, -Nat.not_lt, -Nat.not_le, -List.length_flatMap, this]
  · rintro e' m' x' ⟨g1, g2, g3, g4, g5, g6, g7⟩
    rw [List.take_length] at g6
    simp +contextual (disch := omega) [Nat.add_assoc, Int.add_assoc, if_pos, if_neg, -Int.not_lt, -Int.not_le, -Nat.not_lt, -Nat.not_le, -List.length_flatMap, tcode_writer_term.b2, g1, g2, g3, g4]
    exact hK _ _ (by omega) (g6.up (by omega) (fun j hj => rfl)) g7
theorem right_head {t : Tm} {v d : Int} (h : rightT t v 5 10 d = true) (hv : v ≤ 2000) : (1 ≤ t.kind ∧ t.kind ≤ 7) ∧ (t.kind = 1 → 0 ≤ t.n ∧ t.n < v) ∧ (t.kind = 3 → 0 ≤ t.n ∧ t.n < 20) ∧ t.lvls.length ≤ 5 ∧ (t.kind ≠ 1 → t.kind ≠ 3 → t.n = 0) ∧ (t.kind = 2 → t.lvls.length = 1) ∧ (t.kind ≠ 2 → t.kind ≠ 3 → t.lvls.length = 0) := by
  obtain ⟨h1, h2, h3, h4, h5⟩ := rightT_at h
  have hk : 1 ≤ t.kind ∧ t.kind ≤ 7 := by
    unfold kidsT at h2
    split at h2
    · omega
    · split at h2
      · omega
      · split at h2 <;> omega
  unfold namedT at h3
  split at h3
  · rename_i hk1
    simp only [Bool.and_eq_true, decide_eq_true_eq] at h3
    exact ⟨hk, fun _ => ⟨h3.1.1, h3.1.2⟩, fun h => by omega, by omega, fun h => by omega, fun h => by omega, fun _ _ => h3.2⟩
  · split at h3
    · simp only [Bool.and_eq_true, decide_eq_true_eq] at h3
      exact ⟨hk, fun h => by omega, fun _ => ⟨h3.1.1, h3.1.2⟩, by omega, fun _ h => by omega, fun h => by omega, fun _ h => by omega⟩
    · split at h3
      · simp only [Bool.and_eq_true, decide_eq_true_eq] at h3
        exact ⟨hk, fun h => by omega, fun h => by omega, by omega, fun _ _ => h3.1, fun _ => h3.2, fun h => by omega⟩
      · simp only [Bool.and_eq_true, decide_eq_true_eq] at h3
        exact ⟨hk, fun h => by omega, fun h => by omega, by omega, fun _ _ => h3.1, fun h => by omega, fun _ _ => h3.2⟩
set_option maxHeartbeats 2000000 in
theorem tcode_writer_term.w {T : Nat} (hT : List.contains [71,72,73,74] T = true) (t : Tm) : t.Ok → ∀ (v d : Int) (hv : v + d ≤ 2000) (h : rightT t v 5 10 d = true) (o : List Nat) {m : Sto} {x q : Nat} {K : CR → Sto → Nat → Prop}, Bd T m q o x → o.length + (textT t).length ≤ 2147483648 →
    (∀ m' x', x ≤ x' → Bd T m' q (o ++ textT t) x' → KeepC m m' x → K (.ret (.tu [])) m' x') →
    w ctx (envOf [.p q 0, .ag (cT t)]) m x [] none none (RetG ctx tcode_writer_term.c.rs K) tcode_writer_term.c.code := by
  induction t using Tm.ind with
  | h t ih =>
  intro ok v d hv h o m x q K hB hn hK
  have hf : ctx.frz tcode_writer_number.n = false := rfl
  obtain ⟨r1, r2, r3, r4, r5⟩ := rightT_at h
  obtain ⟨s1, s2, s3, s4, s5, s6, s7⟩ := right_head h (by omega)
  have ih' : ∀ k ∈ t.kids, ∀ (o : List Nat) {m : Sto} {x : Nat} {K : CR → Sto → Nat → Prop}, Bd T m q o x → o.length + (textT k).length ≤ 2147483648 →
      (∀ m' x', x ≤ x' → Bd T m' q (o ++ textT k) x' → KeepC m m' x → K (.ret (.tu [])) m' x') → Pi.w ctx (envOf [.p q 0, .ag (cT k)]) m x [] none none (RetG ctx tcode_writer_term.c.rs K) tcode_writer_term.c.code := by
    intro k hk o m x K h1 h2 h3
    obtain ⟨j, hj, rfl⟩ := List.getElem_of_mem hk
    have hb : bindT t.kind j ≤ 1 := by unfold bindT; split <;> omega
    exact ih _ hk (ok.kid hk) (v + bindT t.kind j) (d - 1) (by omega) (r5 j hj) o h1 h2 h3
  rw [textT_eq] at hn hK
  simp only [List.length_append] at hn
  obtain ⟨hd, hhd⟩ : ∃ z, z = headT t := ⟨_, rfl⟩
  have hhd2 := hhd
  unfold headT at hhd2
  rw [← hhd] at hn hK
  simp +contextual (disch := omega) [Nat.add_assoc, Int.add_assoc, if_pos, if_neg, -Int.not_lt, -Int.not_le, -Nat.not_lt, -Nat.not_le, -List.length_flatMap, tcode_writer_term.c]
  rw [CallX_op (by rfl)]
  refine openg_w rfl rfl (.inl rfl) ?_
  rw [hf]
  obtain ⟨M, hM⟩ : ∃ M, M = m.set x (some (.cells (cT t) false)) := ⟨_, rfl⟩
  rw [← hM]
  have M1 : M x = some (.cells (cT t) false) := by rw [hM]; simp +contextual (disch := omega) [Nat.add_assoc, Int.add_assoc, if_pos, if_neg, -Int.not_lt, -Int.not_le, -Nat.not_lt, -Nat.not_le, -List.length_flatMap]
  have MK : KeepC m M x := fun j hj cs r e => by rw [hM, Sto.sne _ _ _ _ (by omega), e]
  have hlenH := congrArg List.length hhd2
  simp only [List.length_append] at hlenH
  refine tcode_writer_number.w hT (o := o) t.kind (by omega) (by omega) (hB.up (by omega) (fun j hj => by rw [hM, Sto.sne _ _ _ _ (by omega)])) (by omega) ?_
  intro m1 x1 g1 g2 g3
  have c1 := g3 x (by omega) _ _ M1
  have k1 : KeepC m m1 x := MK.trans g3 (by omega)
  have hlen := ok.len
  have hllen := ok.llen
  by_cases h3 : t.kind = 3
  · have h1 : ¬ t.kind = 1 := by omega
    rw [if_neg h1, if_pos h3] at hhd2 hlenH
    simp only [List.length_append] at hlenH
    simp +contextual (disch := omega) [Nat.add_assoc, Int.add_assoc, if_pos, if_neg, -Int.not_lt, -Int.not_le, -Nat.not_lt, -Nat.not_le, -List.length_flatMap, c1, h3]
    rw [CallX_op (by rfl)]
    refine openg_w rfl rfl (.inl rfl) ?_
    rw [hf]
    refine tcode_writer_number.w hT (o := o ++ digs t.kind.toNat) t.n (s3 h3).1 (by have := s3 h3; omega) (g2.up (by omega) (fun j hj => rfl)) (by rw [List.length_append]; omega) ?_
    intro m2 x2 g4 g5 g6
    have c2 := g6 x (by omega) _ _ c1
    have k2 : KeepC m m2 x := k1.trans g6 (by omega)
    simp +contextual (disch := omega) [Nat.add_assoc, Int.add_assoc, if_pos, if_neg, -Int.not_lt, -Int.not_le, -Nat.not_lt, -Nat.not_le, -List.length_flatMap, c2]
    rw [CallX_op (by rfl)]
    refine openg_w rfl rfl (.inl rfl) ?_
    rw [hf]
    refine tcode_writer_number.w hT (o := o ++ digs t.kind.toNat ++ digs t.n.toNat) (t.lvls.length : Int) (by omega) (by omega) (g5.up (by omega) (fun j hj => rfl)) (by rw [Int.toNat_natCast]; simp only [List.length_append]; omega) ?_
    intro m3 x3 g7 g8 g9
    rw [Int.toNat_natCast, show o ++ digs t.kind.toNat ++ digs t.n.toNat ++ digs t.lvls.length = o ++ hd by rw [hhd2]; simp] at g8
    have c3 := g9 x (by omega) _ _ c2
    have k3 : KeepC m m3 x := k2.trans g9 (by omega)
    simp +contextual (disch := omega) [Nat.add_assoc, Int.add_assoc, if_pos, if_neg, -Int.not_lt, -Int.not_le, -Nat.not_lt, -Nat.not_le, -List.length_flatMap, c3]
    refine tcode_writer_llp hT t (o ++ hd) ok r4 (by simp +contextual (disch := omega) [Nat.add_assoc, Int.add_assoc, if_pos, if_neg, -Int.not_lt, -Int.not_le, -Nat.not_lt, -Nat.not_le, -List.length_flatMap]) rfl (by simp +contextual (disch := omega) [Nat.add_assoc, Int.add_assoc, if_pos, if_neg, -Int.not_lt, -Int.not_le, -Nat.not_lt, -Nat.not_le, -List.length_flatMap]) (by simp +contextual (disch := omega) [Nat.add_assoc, Int.add_assoc, if_pos, if_neg, -Int.not_lt, -Int.not_le, -Nat.not_lt, -Nat.not_le, -List.length_flatMap]) (by simp +contextual (disch := omega) [Nat.add_assoc, Int.add_assoc, if_pos, if_neg, -Int.not_lt, -Int.not_le, -Nat.not_lt, -Nat.not_le, -List.length_flatMap]) (g8.up (by omega) (fun j hj => rfl)) (by rw [List.length_append]; omega) ?_
    intro e' m4 x4 w1 w2 w3 w4 w5
    have w3' : e' 3 = .p x 0 := w3.trans (by simp +contextual (disch := omega) [Nat.add_assoc, Int.add_assoc, if_pos, if_neg, -Int.not_lt, -Int.not_le, -Nat.not_lt, -Nat.not_le, -List.length_flatMap])
    have c4 := w5 x (by omega) _ _ c3
    simp +contextual (disch := omega) [Nat.add_assoc, Int.add_assoc, if_pos, if_neg, -Int.not_lt, -Int.not_le, -Nat.not_lt, -Nat.not_le, -List.length_flatMap, w2, w3', c4]
    refine tcode_writer_klp t (o ++ hd ++ t.lvls.flatMap textL) hlen ih' (by simp +contextual (disch := omega) [Nat.add_assoc, Int.add_assoc, if_pos, if_neg, -Int.not_lt, -Int.not_le, -Nat.not_lt, -Nat.not_le, -List.length_flatMap, w2]) (by simp +contextual (disch := omega) [Nat.add_assoc, Int.add_assoc, if_pos, if_neg, -Int.not_lt, -Int.not_le, -Nat.not_lt, -Nat.not_le, -List.length_flatMap]) (by simp +contextual (disch := omega) [Nat.add_assoc, Int.add_assoc, if_pos, if_neg, -Int.not_lt, -Int.not_le, -Nat.not_lt, -Nat.not_le, -List.length_flatMap]) (by simp +contextual (disch := omega) [Nat.add_assoc, Int.add_assoc, if_pos, if_neg, -Int.not_lt, -Int.not_le, -Nat.not_lt, -Nat.not_le, -List.length_flatMap]) (w4.up (by omega) (fun j hj => rfl)) (by simp only [List.length_append]; omega) ?_
    intro m5 x5 y1 y2 y3
    exact hK _ _ (by omega) (by simpa only [List.append_assoc] using y2) ((k3.trans w5 (by omega)).trans y3 (by omega))
  · by_cases h1 : t.kind = 1
    · rw [if_pos h1] at hhd2 hlenH
      simp +contextual (disch := omega) [Nat.add_assoc, Int.add_assoc, if_pos, if_neg, -Int.not_lt, -Int.not_le, -Nat.not_lt, -Nat.not_le, -List.length_flatMap, c1, h1]
      rw [CallX_op (by rfl)]
      refine openg_w rfl rfl (.inl rfl) ?_
      rw [hf]
      refine tcode_writer_number.w hT (o := o ++ digs t.kind.toNat) t.n (s2 h1).1 (by have := s2 h1; omega) (g2.up (by omega) (fun j hj => rfl)) (by rw [List.length_append]; omega) ?_
      intro m2 x2 g4 g5 g6
      rw [show o ++ digs t.kind.toNat ++ digs t.n.toNat = o ++ hd by rw [hhd2]; simp] at g5
      have c2 := g6 x (by omega) _ _ c1
      have k2 : KeepC m m2 x := k1.trans g6 (by omega)
      simp +contextual (disch := omega) [Nat.add_assoc, Int.add_assoc, if_pos, if_neg, -Int.not_lt, -Int.not_le, -Nat.not_lt, -Nat.not_le, -List.length_flatMap, c2]
      refine tcode_writer_llp hT t (o ++ hd) ok r4 (by simp +contextual (disch := omega) [Nat.add_assoc, Int.add_assoc, if_pos, if_neg, -Int.not_lt, -Int.not_le, -Nat.not_lt, -Nat.not_le, -List.length_flatMap]) rfl (by simp +contextual (disch := omega) [Nat.add_assoc, Int.add_assoc, if_pos, if_neg, -Int.not_lt, -Int.not_le, -Nat.not_lt, -Nat.not_le, -List.length_flatMap]) (by simp +contextual (disch := omega) [Nat.add_assoc, Int.add_assoc, if_pos, if_neg, -Int.not_lt, -Int.not_le, -Nat.not_lt, -Nat.not_le, -List.length_flatMap]) (by simp +contextual (disch := omega) [Nat.add_assoc, Int.add_assoc, if_pos, if_neg, -Int.not_lt, -Int.not_le, -Nat.not_lt, -Nat.not_le, -List.length_flatMap]) (g5.up (by omega) (fun j hj => rfl)) (by rw [List.length_append]; omega) ?_
      intro e' m4 x4 w1 w2 w3 w4 w5
      have w3' : e' 3 = .p x 0 := w3.trans (by simp +contextual (disch := omega) [Nat.add_assoc, Int.add_assoc, if_pos, if_neg, -Int.not_lt, -Int.not_le, -Nat.not_lt, -Nat.not_le, -List.length_flatMap])
      have c4 := w5 x (by omega) _ _ c2
      simp +contextual (disch := omega) [Nat.add_assoc, Int.add_assoc, if_pos, if_neg, -Int.not_lt, -Int.not_le, -Nat.not_lt, -Nat.not_le, -List.length_flatMap, w2, w3', c4]
      refine tcode_writer_klp t (o ++ hd ++ t.lvls.flatMap textL) hlen ih' (by simp +contextual (disch := omega) [Nat.add_assoc, Int.add_assoc, if_pos, if_neg, -Int.not_lt, -Int.not_le, -Nat.not_lt, -Nat.not_le, -List.length_flatMap, w2]) (by simp +contextual (disch := omega) [Nat.add_assoc, Int.add_assoc, if_pos, if_neg, -Int.not_lt, -Int.not_le, -Nat.not_lt, -Nat.not_le, -List.length_flatMap]) (by simp +contextual (disch := omega) [Nat.add_assoc, Int.add_assoc, if_pos, if_neg, -Int.not_lt, -Int.not_le, -Nat.not_lt, -Nat.not_le, -List.length_flatMap]) (by simp +contextual (disch := omega) [Nat.add_assoc, Int.add_assoc, if_pos, if_neg, -Int.not_lt, -Int.not_le, -Nat.not_lt, -Nat.not_le, -List.length_flatMap]) (w4.up (by omega) (fun j hj => rfl)) (by simp only [List.length_append]; omega) ?_
      intro m5 x5 y1 y2 y3
      exact hK _ _ (by omega) (by simpa only [List.append_assoc] using y2) ((k2.trans w5 (by omega)).trans y3 (by omega))
    · rw [if_neg h1, if_neg h3] at hhd2 hlenH
      simp +contextual (disch := omega) [Nat.add_assoc, Int.add_assoc, if_pos, if_neg, -Int.not_lt, -Int.not_le, -Nat.not_lt, -Nat.not_le, -List.length_flatMap, c1, h1, h3]
      rw [show o ++ digs t.kind.toNat = o ++ hd by rw [hhd2]; simp] at g2
      refine tcode_writer_llp hT t (o ++ hd) ok r4 (by simp +contextual (disch := omega) [Nat.add_assoc, Int.add_assoc, if_pos, if_neg, -Int.not_lt, -Int.not_le, -Nat.not_lt, -Nat.not_le, -List.length_flatMap]) rfl (by simp +contextual (disch := omega) [Nat.add_assoc, Int.add_assoc, if_pos, if_neg, -Int.not_lt, -Int.not_le, -Nat.not_lt, -Nat.not_le, -List.length_flatMap]) (by simp +contextual (disch := omega) [Nat.add_assoc, Int.add_assoc, if_pos, if_neg, -Int.not_lt, -Int.not_le, -Nat.not_lt, -Nat.not_le, -List.length_flatMap]) (by simp +contextual (disch := omega) [Nat.add_assoc, Int.add_assoc, if_pos, if_neg, -Int.not_lt, -Int.not_le, -Nat.not_lt, -Nat.not_le, -List.length_flatMap]) (g2.up (by omega) (fun j hj => rfl)) (by rw [List.length_append]; omega) ?_
      intro e' m4 x4 w1 w2 w3 w4 w5
      have w3' : e' 3 = .p x 0 := w3.trans (by simp +contextual (disch := omega) [Nat.add_assoc, Int.add_assoc, if_pos, if_neg, -Int.not_lt, -Int.not_le, -Nat.not_lt, -Nat.not_le, -List.length_flatMap])
      have c4 := w5 x (by omega) _ _ c1
      simp +contextual (disch := omega) [Nat.add_assoc, Int.add_assoc, if_pos, if_neg, -Int.not_lt, -Int.not_le, -Nat.not_lt, -Nat.not_le, -List.length_flatMap, w2, w3', c4]
      refine tcode_writer_klp t (o ++ hd ++ t.lvls.flatMap textL) hlen ih' (by simp +contextual (disch := omega) [Nat.add_assoc, Int.add_assoc, if_pos, if_neg, -Int.not_lt, -Int.not_le, -Nat.not_lt, -Nat.not_le, -List.length_flatMap, w2]) (by simp +contextual (disch := omega) [Nat.add_assoc, Int.add_assoc, if_pos, if_neg, -Int.not_lt, -Int.not_le, -Nat.not_lt, -Nat.not_le, -List.length_flatMap]) (by simp +contextual (disch := omega) [Nat.add_assoc, Int.add_assoc, if_pos, if_neg, -Int.not_lt, -Int.not_le, -Nat.not_lt, -Nat.not_le, -List.length_flatMap]) (by simp +contextual (disch := omega) [Nat.add_assoc, Int.add_assoc, if_pos, if_neg, -Int.not_lt, -Int.not_le, -Nat.not_lt, -Nat.not_le, -List.length_flatMap]) (w4.up (by omega) (fun j hj => rfl)) (by simp only [List.length_append]; omega) ?_
      intro m5 x5 y1 y2 y3
      exact hK _ _ (by omega) (by simpa only [List.append_assoc] using y2) ((k1.trans w5 (by omega)).trans y3 (by omega))
theorem headT_len {t : Tm} {v d : Int} (h : rightT t v 5 10 d = true) (hv : v ≤ 2000) : (headT t).length ≤ 3 := by
  obtain ⟨s1, s2, s3, s4, s5, s6, s7⟩ := right_head h hv
  have h1 : ∀ n : Nat, n < 16384 → (digs n).length ≤ 2 := fun n hn => digs_len 1 (by omega)
  unfold headT
  rw [digs_one (by omega)]
  split
  · rename_i hk; have := h1 t.n.toNat (by have := s2 hk; omega); simp; omega
  · split
    · rename_i hk; rw [digs_one (n := t.n.toNat) (by have := s3 hk; omega), digs_one (by omega)]; simp
    · simp
mutual
def szT (l : Tm) : Nat := match l with | .mk _ _ _ ks => 1 + szTs ks
def szTs (l : List Tm) : Nat := match l with | [] => 0 | a :: r => szT a + szTs r
end
theorem szT_eq (t : Tm) : szT t = 1 + szTs t.kids := by cases t; simp [szT]
theorem parts_fold (m : Int) : ∀ (ks : List Tm), (∀ k ∈ ks, ∀ m : Int, (szT k : Int) ≤ partsT k m ∨ m ≤ partsT k m) → ∀ (n s : Int), (s ≤ n ∨ m ≤ n) → (s + szTs ks ≤ ks.foldl (partsF m) n ∨ m ≤ ks.foldl (partsF m) n)
  | [], _, n, s, h => by simpa [szTs] using h
  | k :: r, hk, n, s, h => by
    rw [List.foldl_cons]
    have h1 := hk k (by simp) (m - n)
    have hb := partsT_bd k (m - n)
    have := parts_fold m r (fun x hx => hk x (by simp [hx])) (partsF m n k) (s + szT k) (by unfold partsF; split <;> omega)
    simp only [szTs]
    omega
theorem parts_sz (t : Tm) : ∀ m : Int, (szT t : Int) ≤ partsT t m ∨ m ≤ partsT t m := by
  induction t using Tm.ind with
  | h t ih =>
    intro m
    have := parts_fold m t.kids ih 1 1 (.inl (by omega))
    rw [partsT_eq, szT_eq]
    omega
theorem flat_le {α : Type} {f : α → List Nat} {g : α → Nat} {c : Nat} : ∀ {l : List α}, (∀ x ∈ l, (f x).length ≤ c) → (l.flatMap f).length ≤ c * l.length
  | [], _ => by simp
  | a :: r, h => by
    have h1 := h a (by simp)
    have h2 := flat_le (f := f) (g := g) (c := c) (l := r) (fun x hx => h x (by simp [hx]))
    rw [List.flatMap_cons, List.length_append, List.length_cons, Nat.mul_succ]
    omega
theorem texts_le : ∀ {l : List Tm}, (∀ x ∈ l, (textT x).length ≤ 40960 * szT x) → (l.flatMap textT).length ≤ 40960 * szTs l
  | [], _ => by simp [szTs]
  | a :: r, h => by
    have h1 := h a (by simp)
    have h2 := texts_le (l := r) (fun x hx => h x (by simp [hx]))
    rw [List.flatMap_cons, List.length_append]
    simp only [szTs]
    omega
/-- A right term has no more bytes than there can be. -/
theorem textT_len (t : Tm) : ∀ (v d : Int), v + d ≤ 2000 → rightT t v 5 10 d = true → (textT t).length ≤ 40960 * szT t := by
  induction t using Tm.ind with
  | h t ih =>
    intro v d hv h
    obtain ⟨r1, r2, r3, r4, r5⟩ := rightT_at h
    obtain ⟨s1, s2, s3, s4, s5, s6, s7⟩ := right_head h (by omega)
    have hh := headT_len h (by omega)
    have hl := flat_le (f := textL) (g := fun _ => 0) (c := 8190) (l := t.lvls) (fun x hx => RightS_len (r4 x hx))
    have hk := texts_le (l := t.kids) (fun k hk => by
      obtain ⟨j, hj, rfl⟩ := List.getElem_of_mem hk
      have hb : bindT t.kind j ≤ 1 := by unfold bindT; split <;> omega
      exact ih _ hk (v + bindT t.kind j) (d - 1) (by omega) (r5 j hj))
    rw [textT_eq, szT_eq]
    simp only [List.length_append]
    omega
theorem RightT_right {t : Tm} (h : RightT t 1000 5 10 = true) : rightT t 1000 5 10 30 = true ∧ szT t ≤ 600 := by
  unfold RightT at h
  rw [if_neg (by omega)] at h
  simp only [Bool.and_eq_true, decide_eq_true_eq] at h
  have := parts_sz t 601
  exact ⟨h.2, by omega⟩
theorem RightT_len {t : Tm} (h : RightT t 1000 5 10 = true) : (textT t).length ≤ 24576000 := by
  obtain ⟨h1, h2⟩ := RightT_right h
  have := textT_len t 1000 30 (by omega) h1
  omega
/-- What Put answers. -/
def putTm (t : Tm) : V := if RightT t 1000 5 10 = true then .tu [.s (bs (textT t)), .i .i64 0] else .tu [.s (bs []), .i .i64 1]
theorem tcode_Put.a (t : Tm) (ok : t.Ok) : Ans ctx tcode_Put.n [.ag (cT t)] (putTm t) := by
  refine ans tcode_Put.f ?_
  unfold putTm
  have hf : ctx.frz tcode_writer_term.n = false := rfl
  have hs : ctx.frz strings_Builder_String.n = false := rfl
  by_cases hR : RightT t 1000 5 10 = true
  · rw [if_pos hR]
    have hlen := RightT_len hR
    simp +contextual (disch := omega) [Nat.add_assoc, Int.add_assoc, if_pos, if_neg, -Int.not_lt, -Int.not_le, -Nat.not_lt, -Nat.not_le, -List.length_flatMap, tcode_Put.c, ansK (term_Right.a t ok 1000 5 10), hR]
    rw [CallX_op (by rfl)]
    refine openg_w rfl rfl (.inl rfl) ?_
    rw [hf]
    refine tcode_writer_term.w (T := 74) (by decide) t ok 1000 30 (by omega) (RightT_right hR).1 [] (q := 5) ⟨.np, .ns, ?_, .inl rfl, by omega, .inl ⟨rfl, rfl⟩⟩ (by simp; omega) ?_
    · simp +contextual (disch := omega) [Nat.add_assoc, Int.add_assoc, if_pos, if_neg, -Int.not_lt, -Int.not_le, -Nat.not_lt, -Nat.not_le, -List.length_flatMap]
    intro m' x' g1 g2 g3
    obtain ⟨ad, B, b1, b2, b3, b4⟩ := id g2
    simp +contextual (disch := omega) [Nat.add_assoc, Int.add_assoc, if_pos, if_neg, -Int.not_lt, -Int.not_le, -Nat.not_lt, -Nat.not_le, -List.length_flatMap, b1]
    rw [CallX_op (by rfl)]
    refine openg_w rfl rfl (.inl rfl) ?_
    rw [hs]
    refine strings_Builder_String.w (textT t) (by rw [textT_eq]; unfold headT; simp [digs_ne]) (g2.up (by omega) (fun j hj => rfl)) (by omega) ?_
    intro m2 x2 k1 k2
    simp +contextual (disch := omega) [Nat.add_assoc, Int.add_assoc, if_pos, if_neg, -Int.not_lt, -Int.not_le, -Nat.not_lt, -Nat.not_le, -List.length_flatMap]
  · rw [if_neg hR]
    simp +contextual (disch := omega) [Nat.add_assoc, Int.add_assoc, if_pos, if_neg, -Int.not_lt, -Int.not_le, -Nat.not_lt, -Nat.not_le, -List.length_flatMap, tcode_Put.c, ansK (term_Right.a t ok 1000 5 10), hR]
end Pi

