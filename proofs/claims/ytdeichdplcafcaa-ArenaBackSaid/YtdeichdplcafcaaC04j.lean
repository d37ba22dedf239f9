/- Contracts: arenas (layer 4): put, Put. -/
import Derived.Test.YtdeichdplcafcaaC04i
set_option linter.unusedSimpArgs false
set_option linter.unusedVariables false
namespace Pi
def rangeI (n : Nat) : List Int := (List.range n).map fun (k : Nat) => (k : Int)
theorem rangeI_s (n : Nat) : rangeI (n + 1) = rangeI n ++ [(n : Int)] := by simp [rangeI, List.range_succ]
theorem rangeI_get {n j : Nat} (h : j < n) : (valsI (rangeI n))[j]? = some (.i .i64 j) := by simp [valsI, rangeI, h]
theorem putN_nodup (l : L) : ∀ ns : List N, ns.Nodup → (putN l ns).1.Nodup := by
  induction l using L.ind with
  | h l ih =>
  intro ns hn
  have key : ∀ (ks : List L) (ms : List N), (∀ k ∈ ks, k ∈ l.kids) → ms.Nodup → (putKs ks ms).1.Nodup := by
    intro ks
    induction ks with
    | nil => intro ms _ h; rw [putKs_nil]; exact h
    | cons k r ihr =>
      intro ms hm h
      rw [putKs_cons]
      exact ihr _ (fun k' hk' => hm k' (by simp [hk'])) (ih k (hm k (by simp)) ms h)
  have h1 := key l.kids ns (fun k h => h) hn
  rw [putN_eq]
  split
  · exact h1
  · rename_i hp
    simp only
    rw [List.nodup_append]
    refine ⟨h1, by simp, ?_⟩
    rintro a ha b hb rfl
    simp at hb
    subst hb
    exact posN_none.1 hp ha
/-- The contract of put. -/
def PutP (l : L) (d : Nat) : Prop := ∀ (ns : List N) (B : V) (a c : Nat) (m : Sto) (x : Nat) (K : CR → Sto → Nat → Prop), ns.Nodup → ns.length + 2 ^ d ≤ 90000 → m a = some (.cells [B, .mp c] false) → Eg m B cN 4 ns 0 x → m c = some (.map (keysN ns) (valsI (rangeI ns.length)) false) →
  a < x → c < x → a ≠ c → a ∉ refOf B → c ∉ refOf B →
  (∀ B' m' x', x ≤ x' → m' a = some (.cells [B', .mp c] false) → Eg m' B' cN 4 (putN l ns).1 0 x' → m' c = some (.map (keysN (putN l ns).1) (valsI (rangeI (putN l ns).1.length)) false) → a ∉ refOf B' → c ∉ refOf B' →
    (∀ j, j ∈ refOf B' → j ∈ refOf B ∨ x ≤ j) → (∀ j, j < x → j ≠ a → j ≠ c → j ∉ refOf B → m' j = m j) → K (.ret (.i .i64 (putN l ns).2)) m' x') →
  w ctx (envOf [.p a 0, .ag (cL l)]) m x [] none none (RetG ctx arena_putter_put.c.rs K) arena_putter_put.c.code
set_option maxRecDepth 20000 in
set_option maxHeartbeats 4000000 in
theorem arena_putter_put.w (l : L) : ∀ (p q : Int) (d : Nat), d ≤ 12 → rightS l p q d = true → PutP l d := by
  induction l using L.ind with
  | h l ih =>
  intro p q d hd hr ns B a c m x K hnd hs ha hB hc hax hcx hac haB hcB hK
  obtain ⟨h1, h2, h3, h4⟩ := right_kid hr
  obtain ⟨e, rfl⟩ : ∃ e, d = e + 1 := ⟨d - 1, by omega⟩
  have h4' : ∀ k ∈ l.kids, rightS k p q (e : Nat) = true := fun k hk => by
    have := h4 k hk
    rwa [(by omega : (((e + 1 : Nat) : Int) - 1) = (e : Nat))] at this
  have hk2 : l.kids.length ≤ 2 := by rcases kidsS_cases l.kind with h | h | h | h <;> omega
  have h2e : 2 ^ (e + 1) = 2 ^ e * 2 := Nat.pow_succ 2 e
  have hpos : 0 < 2 ^ e := Nat.pow_pos (by omega)
  have hst := hB.stor
  have hfa : ctx.frz arena_putter_put.n = false := rfl
  have hBr : ∀ j, j ∈ refOf B → j < x := fun j hj => by have := hB.ref hj; omega
  have tail : ∀ (E : Env) (MM : Sto) (X : Nat) (n1 : List N) (B1 : V) (pa pb : Nat), putKs l.kids ns = (n1, (putKs l.kids ns).2) → nodeOf l (putKs l.kids ns) = ⟨l.kind, l.n, pa, pb⟩ → n1.length ≤ 90000 → n1.Nodup → E 0 = .p a 0 → E 3 = .p x 0 → E 5 = .p (x + 2) 0 → E 13 = .i .i64 l.kids.length → E 14 = .i .i64 l.kids.length → x + 7 ≤ X →
      MM x = some (.cells (cL l) false) → MM (x + 2) = some (.cells [.i .i64 pa, .i .i64 pb] false) → MM a = some (.cells [B1, .mp c] false) → MM c = some (.map (keysN n1) (valsI (rangeI n1.length)) false) → Eg MM B1 cN 4 n1 0 X → a ∉ refOf B1 → c ∉ refOf B1 → (∀ j, j ∈ refOf B1 → j ∈ refOf B ∨ x + 7 ≤ j) → (∀ j, j < x → j ≠ a → j ≠ c → j ∉ refOf B → MM j = m j) →
      Pi.w ctx E MM X [] none none (BlkK 0 (SeqK ctx ((PCode.reg [Seg.seq [{ d := some 25, o := POp.fa 0 (Opd.t 3), g := none }, { d := some 26, o := POp.ld false 1 (Opd.t 25), g := none }, { d := some 27, o := POp.fa 1 (Opd.t 3), g := none }, { d := some 28, o := POp.ld false 1 (Opd.t 27), g := none }, { d := some 29, o := POp.iz 2 1 (Opd.t 5) (Opd.c (V.i Go.IntKind.i64 0)), g := none }, { d := some 30, o := POp.ld false 1 (Opd.t 29), g := none }, { d := some 31, o := POp.iz 2 1 (Opd.t 5) (Opd.c (V.i Go.IntKind.i64 1)), g := none }, { d := some 32, o := POp.ld false 1 (Opd.t 31), g := none }, { d := some 33, o := POp.bd [V.i Go.IntKind.i64 0, V.i Go.IntKind.i64 0, V.i Go.IntKind.i64 0, V.i Go.IntKind.i64 0] [(0, 1, Opd.t 26), (1, 1, Opd.t 28), (2, 1, Opd.t 30), (3, 1, Opd.t 32)], g := none }, { d := some 8, o := POp.al [V.i Go.IntKind.i64 0, V.i Go.IntKind.i64 0, V.i Go.IntKind.i64 0, V.i Go.IntKind.i64 0], g := none }, { d := none, o := POp.st 4 (Opd.t 8) (Opd.t 33), g := none }]]).seq ((PCode.reg [Seg.any [{ d := some 35, o := POp.mv (Opd.t 0), g := none }, { d := some 36, o := POp.nc (Opd.t 35), g := none }, { d := some 37, o := POp.fa 1 (Opd.t 36), g := none }, { d := some 38, o := POp.ld false 1 (Opd.t 37), g := none }, { d := some 39, o := POp.ld true 4 (Opd.t 8), g := none }] [], Seg.seq [{ d := some 40, o := POp.lk (Q.many [Pi.K.i, Pi.K.i, Pi.K.i, Pi.K.i]) (V.i Go.IntKind.i64 0) (Opd.t 38) (Opd.t 39) true, g := none }], Seg.seq [{ d := some 34, o := POp.mv (Opd.t 40), g := none }], Seg.any [{ d := some 41, o := POp.ex (Opd.t 34) 0, g := none }, { d := some 42, o := POp.ex (Opd.t 34) 1, g := none }, { d := some 9, o := POp.mv (Opd.t 41), g := none }] [], Seg.seq [{ d := some 10, o := POp.mv (Opd.t 42), g := none }]]).seq (((PCode.reg [Seg.seq [{ d := some 43, o := POp.mv (Opd.t 10), g := none }, { d := some 44, o := POp.un Go.UnOp.not (Opd.t 43), g := none }]]).seq (PCode.cond (Opd.t 44) ((PCode.reg [Seg.seq [{ d := some 45, o := POp.mv (Opd.t 0), g := none }, { d := some 46, o := POp.nc (Opd.t 45), g := none }, { d := some 47, o := POp.fa 0 (Opd.t 46), g := none }, { d := some 48, o := POp.ld false 1 (Opd.t 47), g := none }, { d := some 49, o := POp.ln LK.l (Opd.t 48), g := none }, { d := some 9, o := POp.mv (Opd.t 49), g := none }]]).seq ((PCode.reg [Seg.any [{ d := some 50, o := POp.mv (Opd.t 0), g := none }, { d := some 51, o := POp.nc (Opd.t 50), g := none }, { d := some 52, o := POp.fa 1 (Opd.t 51), g := none }, { d := some 53, o := POp.ld false 1 (Opd.t 52), g := none }, { d := some 54, o := POp.ld true 4 (Opd.t 8), g := none }, { d := some 55, o := POp.mv (Opd.t 9), g := none }] [], Seg.seq [{ d := none, o := POp.mu (Q.many [Pi.K.i, Pi.K.i, Pi.K.i, Pi.K.i]) (Opd.t 53) (Opd.t 54) (Opd.t 55), g := none }]]).seq (PCode.reg [Seg.any [{ d := some 56, o := POp.mv (Opd.t 0), g := none }, { d := some 57, o := POp.mv (Opd.t 0), g := none }, { d := some 58, o := POp.nc (Opd.t 57), g := none }, { d := some 59, o := POp.fa 0 (Opd.t 58), g := none }, { d := some 60, o := POp.ld false 1 (Opd.t 59), g := none }, { d := some 61, o := POp.ld true 4 (Opd.t 8), g := none }, { d := some 62, o := POp.bs 4 1 [V.i Go.IntKind.i64 0, V.i Go.IntKind.i64 0, V.i Go.IntKind.i64 0, V.i Go.IntKind.i64 0] [(0, 4, Opd.t 61)], g := none }, { d := some 63, o := POp.ap 4 (Opd.t 60) (Opd.t 62), g := none }] [(4, 6)], Seg.seq [{ d := some 64, o := POp.nc (Opd.t 56), g := none }], Seg.seq [{ d := some 65, o := POp.fa 0 (Opd.t 64), g := none }], Seg.seq [{ d := none, o := POp.st 1 (Opd.t 65) (Opd.t 63), g := none }]]))) PCode.skip)).seq ((PCode.reg [Seg.seq [{ d := some 66, o := POp.mv (Opd.t 9), g := none }, { d := some 4, o := POp.mv (Opd.t 66), g := none }]]).seq PCode.ret)))) (RetG ctx [RVar.t 4] K))) (PCode.loop arena_putter_put.b1) := by
    intro E MM X n1 B1 pa pb hp0 hnode hn1 hnd1 E0 E3 E5 E13 E14 hX M0 M2 Ma Mc hE1 ha1 hc1 hr1 hfr
    have hpe : putN l ns = match posN ⟨l.kind, l.n, pa, pb⟩ n1 0 with
      | some j => (n1, j)
      | none => (n1 ++ [⟨l.kind, l.n, pa, pb⟩], n1.length) := by
      rw [putN_eq, hnode, hp0]
      rfl
    have s1 := hE1.stor
    have hf := findInN ⟨l.kind, l.n, pa, pb⟩ n1
    rw [show (cN ⟨l.kind, l.n, pa, pb⟩) = [V.i .i64 l.kind, .i .i64 l.n, .i .i64 pa, .i .i64 pb] from rfl] at hf
    have hks : (keysN n1) = n1.map fun y => V.ag (cN y) := rfl
    rw [← hks] at hf
    have hb1 : ∀ j, j ∈ refOf B1 → j < X ∧ j ≠ a ∧ j ≠ c := fun j hj => ⟨(hE1.ref hj).2, fun h => ha1 (h ▸ hj), fun h => hc1 (h ▸ hj)⟩
    cases hp : posN ⟨l.kind, l.n, pa, pb⟩ n1 0 with
    | some j =>
      rw [hp] at hf hpe
      obtain ⟨i, hi1, hi2⟩ := posN_some hp
      have hji : j = i := by omega
      subst hji
      have hjl : j < n1.length := (List.getElem?_eq_some_iff.1 hi2).1
      have hgv := rangeI_get hjl
      refine un_w ?_
      simp +contextual (disch := omega) [Nat.add_assoc, Int.add_assoc, if_pos, if_neg, -Int.not_lt, -Int.not_le, -Nat.not_lt, -Nat.not_le, -List.length_flatMap, arena_putter_put.b1, E0, E3, E5, E13, E14, M0, M2, Ma, Mc, hf, hgv]
      rw [hpe] at hK
      refine hK B1 _ _ (by omega) ?_ (hE1.mv (by omega) (fun q hq => ?_)) ?_ ha1 hc1 (fun q hq => ?_) (fun q h1 h2 h3 h4 => ?_)
      · simp +contextual (disch := omega) [Nat.add_assoc, Int.add_assoc, if_pos, if_neg, -Int.not_lt, -Int.not_le, -Nat.not_lt, -Nat.not_le, -List.length_flatMap, Ma]
      · have := (hb1 q hq).1
        simp +contextual (disch := omega) [Nat.add_assoc, Int.add_assoc, if_pos, if_neg, -Int.not_lt, -Int.not_le, -Nat.not_lt, -Nat.not_le, -List.length_flatMap]
      · simp +contextual (disch := omega) [Nat.add_assoc, Int.add_assoc, if_pos, if_neg, -Int.not_lt, -Int.not_le, -Nat.not_lt, -Nat.not_le, -List.length_flatMap, Mc]
      · rcases hr1 q hq with h | h
        · exact .inl h
        · exact .inr (by omega)
      · simp +contextual (disch := omega) [Nat.add_assoc, Int.add_assoc, if_pos, if_neg, -Int.not_lt, -Int.not_le, -Nat.not_lt, -Nat.not_le, -List.length_flatMap, hfr q h1 h2 h3 h4]
    | none =>
      rw [hp] at hf hpe
      refine un_w ?_
      have hvs : valsI (rangeI n1.length) ++ [.i .i64 n1.length] = valsI (rangeI (n1.length + 1)) := by rw [rangeI_s]; simp [valsI]
      have hkk : keysN n1 ++ [.ag [V.i .i64 l.kind, .i .i64 l.n, .i .i64 pa, .i .i64 pb]] = keysN (n1 ++ [⟨l.kind, l.n, pa, pb⟩]) := by simp [keysN, cN]
      simp +contextual (disch := omega) [Nat.add_assoc, Int.add_assoc, if_pos, if_neg, -Int.not_lt, -Int.not_le, -Nat.not_lt, -Nat.not_le, -List.length_flatMap, arena_putter_put.b1, E0, E3, E5, E13, E14, M0, M2, Ma, Mc, hf, s1.1, s1.2.1, s1.2.2, hvs, hkk, -apV_ns]
      refine hE1.apy [⟨l.kind, l.n, pa, pb⟩] (fun j h => by have := hb1 j h; simp +contextual (disch := omega) [Nat.add_assoc, Int.add_assoc, if_pos, if_neg, -Int.not_lt, -Int.not_le, -Nat.not_lt, -Nat.not_le, -List.length_flatMap, this.2.2]) (by omega) rfl rfl (by simp) (by simp; omega) ?_
      intro ws m2 v1 v2 v3 v4
      have ra : m2 a = some (.cells [B1, .mp c] false) := by rw [v3 a ha1 (by omega)]; simp +contextual (disch := omega) [Nat.add_assoc, Int.add_assoc, if_pos, if_neg, -Int.not_lt, -Int.not_le, -Nat.not_lt, -Nat.not_le, -List.length_flatMap, Ma]
      have rc : m2 c = some (.map (keysN (n1 ++ [⟨l.kind, l.n, pa, pb⟩])) (valsI (rangeI (n1.length + 1))) false) := by rw [v3 c hc1 (by omega)]; simp +contextual (disch := omega) [Nat.add_assoc, Int.add_assoc, if_pos, if_neg, -Int.not_lt, -Int.not_le, -Nat.not_lt, -Nat.not_le, -List.length_flatMap]
      simp +contextual (disch := omega) [Nat.add_assoc, Int.add_assoc, if_pos, if_neg, -Int.not_lt, -Int.not_le, -Nat.not_lt, -Nat.not_le, -List.length_flatMap, v1, E0, ra]
      rw [hpe] at hK
      refine hK _ _ _ (by omega) (Sto.seq _ _ _) (.inr ⟨X + 45, by simp, ?_, by omega, by omega⟩) ?_ (by simp [refOf]; omega) (by simp [refOf]; omega) (fun q hq => .inr (by simp [refOf] at hq; omega)) (fun q h1 h2 h3 h4 => ?_)
      · rw [Sto.sne _ _ _ _ (by omega), v2]
      · rw [Sto.sne _ _ _ _ (fun h => hac h.symm), rc]
        simp
      · rw [Sto.sne _ _ _ _ h2]
        by_cases hq : q ∈ refOf B1
        · rcases hr1 q hq with h | h
          · exact absurd h h4
          · omega
        · rw [v3 q hq (by omega)]
          simp +contextual (disch := omega) [Nat.add_assoc, Int.add_assoc, if_pos, if_neg, -Int.not_lt, -Int.not_le, -Nat.not_lt, -Nat.not_le, -List.length_flatMap, hfr q h1 h2 h3 h4]
  match hks : l.kids with
  | [] =>
    simp +contextual (disch := omega) [Nat.add_assoc, Int.add_assoc, if_pos, if_neg, -Int.not_lt, -Int.not_le, -Nat.not_lt, -Nat.not_le, -List.length_flatMap, arena_putter_put.c, hks]
    refine tail _ _ _ ns B 0 0 (by rw [hks, putKs_nil]) (by rw [hks, putKs_nil]; rfl) (by omega) hnd (by simp +contextual (disch := omega) [Nat.add_assoc, Int.add_assoc, if_pos, if_neg, -Int.not_lt, -Int.not_le, -Nat.not_lt, -Nat.not_le, -List.length_flatMap]) (by simp +contextual (disch := omega) [Nat.add_assoc, Int.add_assoc, if_pos, if_neg, -Int.not_lt, -Int.not_le, -Nat.not_lt, -Nat.not_le, -List.length_flatMap]) (by simp +contextual (disch := omega) [Nat.add_assoc, Int.add_assoc, if_pos, if_neg, -Int.not_lt, -Int.not_le, -Nat.not_lt, -Nat.not_le, -List.length_flatMap]) (by simp +contextual (disch := omega) [Nat.add_assoc, Int.add_assoc, if_pos, if_neg, -Int.not_lt, -Int.not_le, -Nat.not_lt, -Nat.not_le, -List.length_flatMap, hks]) (by simp +contextual (disch := omega) [Nat.add_assoc, Int.add_assoc, if_pos, if_neg, -Int.not_lt, -Int.not_le, -Nat.not_lt, -Nat.not_le, -List.length_flatMap, hks]) (by omega) (by simp +contextual (disch := omega) [Nat.add_assoc, Int.add_assoc, if_pos, if_neg, -Int.not_lt, -Int.not_le, -Nat.not_lt, -Nat.not_le, -List.length_flatMap]) (by simp +contextual (disch := omega) [Nat.add_assoc, Int.add_assoc, if_pos, if_neg, -Int.not_lt, -Int.not_le, -Nat.not_lt, -Nat.not_le, -List.length_flatMap]) (by simp +contextual (disch := omega) [Nat.add_assoc, Int.add_assoc, if_pos, if_neg, -Int.not_lt, -Int.not_le, -Nat.not_lt, -Nat.not_le, -List.length_flatMap, ha]) (by simp +contextual (disch := omega) [Nat.add_assoc, Int.add_assoc, if_pos, if_neg, -Int.not_lt, -Int.not_le, -Nat.not_lt, -Nat.not_le, -List.length_flatMap, hc]) (hB.mv (by omega) (fun j h => by have := hBr j h; simp +contextual (disch := omega) [Nat.add_assoc, Int.add_assoc, if_pos, if_neg, -Int.not_lt, -Int.not_le, -Nat.not_lt, -Nat.not_le, -List.length_flatMap])) haB hcB (fun j h => .inl h) (fun j h1 h2 h3 h4 => by simp +contextual (disch := omega) [Nat.add_assoc, Int.add_assoc, if_pos, if_neg, -Int.not_lt, -Int.not_le, -Nat.not_lt, -Nat.not_le, -List.length_flatMap])
  | [k1] =>
    have pa := ih k1 (by simp [hks]) p q e (by omega) (h4' k1 (by simp [hks]))
    simp +contextual (disch := omega) [Nat.add_assoc, Int.add_assoc, if_pos, if_neg, -Int.not_lt, -Int.not_le, -Nat.not_lt, -Nat.not_le, -List.length_flatMap, arena_putter_put.c, hks]
    refine un_w ?_
    simp +contextual (disch := omega) [Nat.add_assoc, Int.add_assoc, if_pos, if_neg, -Int.not_lt, -Int.not_le, -Nat.not_lt, -Nat.not_le, -List.length_flatMap, arena_putter_put.b1]
    rw [CallX_op (by rfl)]
    refine openg_w arena_putter_put.f rfl (.inl rfl) ?_
    rw [hfa]
    refine pa ns B a c _ _ _ hnd (by omega) (by simp +contextual (disch := omega) [Nat.add_assoc, Int.add_assoc, if_pos, if_neg, -Int.not_lt, -Int.not_le, -Nat.not_lt, -Nat.not_le, -List.length_flatMap, ha]) (hB.mv (by omega) (fun j h => by have := hBr j h; simp +contextual (disch := omega) [Nat.add_assoc, Int.add_assoc, if_pos, if_neg, -Int.not_lt, -Int.not_le, -Nat.not_lt, -Nat.not_le, -List.length_flatMap])) (by simp +contextual (disch := omega) [Nat.add_assoc, Int.add_assoc, if_pos, if_neg, -Int.not_lt, -Int.not_le, -Nat.not_lt, -Nat.not_le, -List.length_flatMap, hc]) (by omega) (by omega) hac haB hcB ?_
    intro B1 m1 x1 u0 ua u2 uc ua' uc' u3 u4
    have q0 : m1 x = some (.cells (cL l) false) := by rw [u4 x (by omega) (by omega) (by omega) (fun h => by have := hBr x h; omega)]; simp +contextual (disch := omega) [Nat.add_assoc, Int.add_assoc, if_pos, if_neg, -Int.not_lt, -Int.not_le, -Nat.not_lt, -Nat.not_le, -List.length_flatMap]
    have q2 : m1 (x + 2) = some (.cells [.i .i64 0, .i .i64 0] false) := by rw [u4 _ (by omega) (by omega) (by omega) (fun h => by have := hBr _ h; omega)]; simp +contextual (disch := omega) [Nat.add_assoc, Int.add_assoc, if_pos, if_neg, -Int.not_lt, -Int.not_le, -Nat.not_lt, -Nat.not_le, -List.length_flatMap]
    simp +contextual (disch := omega) [Nat.add_assoc, Int.add_assoc, if_pos, if_neg, -Int.not_lt, -Int.not_le, -Nat.not_lt, -Nat.not_le, -List.length_flatMap, q2]
    have hlen := (putN_len k1 p q e ns (h4' k1 (by simp [hks]))).1
    have hrB : ∀ j, j ∈ refOf B1 → j < x ∨ x + 17 ≤ j := fun j h => by
      rcases u3 j h with h | h
      · have := hBr j h; omega
      · omega
    refine tail _ _ _ (putN k1 ns).1 B1 (putN k1 ns).2 0 (by rw [hks, putKs_cons, putKs_nil]) (by rw [hks, putKs_cons, putKs_nil]; rfl) (by omega) (putN_nodup k1 ns hnd) (by simp +contextual (disch := omega) [Nat.add_assoc, Int.add_assoc, if_pos, if_neg, -Int.not_lt, -Int.not_le, -Nat.not_lt, -Nat.not_le, -List.length_flatMap]) (by simp +contextual (disch := omega) [Nat.add_assoc, Int.add_assoc, if_pos, if_neg, -Int.not_lt, -Int.not_le, -Nat.not_lt, -Nat.not_le, -List.length_flatMap]) (by simp +contextual (disch := omega) [Nat.add_assoc, Int.add_assoc, if_pos, if_neg, -Int.not_lt, -Int.not_le, -Nat.not_lt, -Nat.not_le, -List.length_flatMap]) (by simp +contextual (disch := omega) [Nat.add_assoc, Int.add_assoc, if_pos, if_neg, -Int.not_lt, -Int.not_le, -Nat.not_lt, -Nat.not_le, -List.length_flatMap, hks]) (by simp +contextual (disch := omega) [Nat.add_assoc, Int.add_assoc, if_pos, if_neg, -Int.not_lt, -Int.not_le, -Nat.not_lt, -Nat.not_le, -List.length_flatMap, hks]) (by omega) (by simp +contextual (disch := omega) [Nat.add_assoc, Int.add_assoc, if_pos, if_neg, -Int.not_lt, -Int.not_le, -Nat.not_lt, -Nat.not_le, -List.length_flatMap, q0]) (by simp +contextual (disch := omega) [Nat.add_assoc, Int.add_assoc, if_pos, if_neg, -Int.not_lt, -Int.not_le, -Nat.not_lt, -Nat.not_le, -List.length_flatMap]) (by simp +contextual (disch := omega) [Nat.add_assoc, Int.add_assoc, if_pos, if_neg, -Int.not_lt, -Int.not_le, -Nat.not_lt, -Nat.not_le, -List.length_flatMap, ua]) (by simp +contextual (disch := omega) [Nat.add_assoc, Int.add_assoc, if_pos, if_neg, -Int.not_lt, -Int.not_le, -Nat.not_lt, -Nat.not_le, -List.length_flatMap, uc]) (u2.mv (by omega) (fun j h => by have := hrB j h; simp +contextual (disch := omega) [Nat.add_assoc, Int.add_assoc, if_pos, if_neg, -Int.not_lt, -Int.not_le, -Nat.not_lt, -Nat.not_le, -List.length_flatMap])) ua' uc' (fun j h => by rcases u3 j h with h | h; exact .inl h; exact .inr (by omega)) (fun j h1 h2 h3 h4 => ?_)
    rw [Sto.sne _ _ _ _ (by omega), u4 j (by omega) h2 h3 h4]
    simp +contextual (disch := omega) [Nat.add_assoc, Int.add_assoc, if_pos, if_neg, -Int.not_lt, -Int.not_le, -Nat.not_lt, -Nat.not_le, -List.length_flatMap]
  | [k1, k2] =>
    have pa := ih k1 (by simp [hks]) p q e (by omega) (h4' k1 (by simp [hks]))
    have pb := ih k2 (by simp [hks]) p q e (by omega) (h4' k2 (by simp [hks]))
    have hlen := (putN_len k1 p q e ns (h4' k1 (by simp [hks]))).1
    have hlen2 := (putN_len k2 p q e (putN k1 ns).1 (h4' k2 (by simp [hks]))).1
    simp +contextual (disch := omega) [Nat.add_assoc, Int.add_assoc, if_pos, if_neg, -Int.not_lt, -Int.not_le, -Nat.not_lt, -Nat.not_le, -List.length_flatMap, arena_putter_put.c, hks]
    refine un_w ?_
    simp +contextual (disch := omega) [Nat.add_assoc, Int.add_assoc, if_pos, if_neg, -Int.not_lt, -Int.not_le, -Nat.not_lt, -Nat.not_le, -List.length_flatMap, arena_putter_put.b1]
    rw [CallX_op (by rfl)]
    refine openg_w arena_putter_put.f rfl (.inl rfl) ?_
    rw [hfa]
    refine pa ns B a c _ _ _ hnd (by omega) (by simp +contextual (disch := omega) [Nat.add_assoc, Int.add_assoc, if_pos, if_neg, -Int.not_lt, -Int.not_le, -Nat.not_lt, -Nat.not_le, -List.length_flatMap, ha]) (hB.mv (by omega) (fun j h => by have := hBr j h; simp +contextual (disch := omega) [Nat.add_assoc, Int.add_assoc, if_pos, if_neg, -Int.not_lt, -Int.not_le, -Nat.not_lt, -Nat.not_le, -List.length_flatMap])) (by simp +contextual (disch := omega) [Nat.add_assoc, Int.add_assoc, if_pos, if_neg, -Int.not_lt, -Int.not_le, -Nat.not_lt, -Nat.not_le, -List.length_flatMap, hc]) (by omega) (by omega) hac haB hcB ?_
    intro B1 m1 x1 u0 ua u2 uc ua' uc' u3 u4
    have q0 : m1 x = some (.cells (cL l) false) := by rw [u4 x (by omega) (by omega) (by omega) (fun h => by have := hBr x h; omega)]; simp +contextual (disch := omega) [Nat.add_assoc, Int.add_assoc, if_pos, if_neg, -Int.not_lt, -Int.not_le, -Nat.not_lt, -Nat.not_le, -List.length_flatMap]
    have q2 : m1 (x + 2) = some (.cells [.i .i64 0, .i .i64 0] false) := by rw [u4 _ (by omega) (by omega) (by omega) (fun h => by have := hBr _ h; omega)]; simp +contextual (disch := omega) [Nat.add_assoc, Int.add_assoc, if_pos, if_neg, -Int.not_lt, -Int.not_le, -Nat.not_lt, -Nat.not_le, -List.length_flatMap]
    simp +contextual (disch := omega) [Nat.add_assoc, Int.add_assoc, if_pos, if_neg, -Int.not_lt, -Int.not_le, -Nat.not_lt, -Nat.not_le, -List.length_flatMap, q2]
    have hrB : ∀ j, j ∈ refOf B1 → j < x ∨ x + 17 ≤ j := fun j h => by
      rcases u3 j h with h | h
      · have := hBr j h; omega
      · omega
    have hrL : ∀ j, j ∈ refOf B1 → j < x1 := fun j h => (u2.ref h).2
    refine un_w ?_
    simp +contextual (disch := omega) [Nat.add_assoc, Int.add_assoc, if_pos, if_neg, -Int.not_lt, -Int.not_le, -Nat.not_lt, -Nat.not_le, -List.length_flatMap]
    rw [CallX_op (by rfl)]
    refine openg_w arena_putter_put.f rfl (.inl rfl) ?_
    rw [hfa]
    refine pb (putN k1 ns).1 B1 a c _ _ _ (putN_nodup k1 ns hnd) (by omega) (by simp +contextual (disch := omega) [Nat.add_assoc, Int.add_assoc, if_pos, if_neg, -Int.not_lt, -Int.not_le, -Nat.not_lt, -Nat.not_le, -List.length_flatMap, ua]) (u2.mv (by omega) (fun j h => by have := hrB j h; have := hrL j h; simp +contextual (disch := omega) [Nat.add_assoc, Int.add_assoc, if_pos, if_neg, -Int.not_lt, -Int.not_le, -Nat.not_lt, -Nat.not_le, -List.length_flatMap])) (by simp +contextual (disch := omega) [Nat.add_assoc, Int.add_assoc, if_pos, if_neg, -Int.not_lt, -Int.not_le, -Nat.not_lt, -Nat.not_le, -List.length_flatMap, uc]) (by omega) (by omega) hac ua' uc' ?_
    intro B2 m2 x2 w0 wa w2 wc wa' wc' w3 w4
    have r0 : m2 x = some (.cells (cL l) false) := by rw [w4 x (by omega) (by omega) (by omega) (fun h => by have := hrB x h; omega)]; simp +contextual (disch := omega) [Nat.add_assoc, Int.add_assoc, if_pos, if_neg, -Int.not_lt, -Int.not_le, -Nat.not_lt, -Nat.not_le, -List.length_flatMap, q0]
    have r2 : m2 (x + 2) = some (.cells [.i .i64 (putN k1 ns).2, .i .i64 0] false) := by rw [w4 _ (by omega) (by omega) (by omega) (fun h => by have := hrB _ h; omega)]; simp +contextual (disch := omega) [Nat.add_assoc, Int.add_assoc, if_pos, if_neg, -Int.not_lt, -Int.not_le, -Nat.not_lt, -Nat.not_le, -List.length_flatMap]
    simp +contextual (disch := omega) [Nat.add_assoc, Int.add_assoc, if_pos, if_neg, -Int.not_lt, -Int.not_le, -Nat.not_lt, -Nat.not_le, -List.length_flatMap, r2]
    have hrB2 : ∀ j, j ∈ refOf B2 → j ∈ refOf B ∨ x + 17 ≤ j := fun j h => by
      rcases w3 j h with h | h
      · rcases u3 j h with h | h
        · exact .inl h
        · exact .inr (by omega)
      · exact .inr (by omega)
    have hrB3 : ∀ j, j ∈ refOf B2 → j < x ∨ x + 17 ≤ j := fun j h => by
      rcases hrB2 j h with h | h
      · have := hBr j h; omega
      · omega
    refine tail _ _ _ (putN k2 (putN k1 ns).1).1 B2 (putN k1 ns).2 (putN k2 (putN k1 ns).1).2 (by rw [hks, putKs_cons, putKs_cons, putKs_nil]) (by rw [hks, putKs_cons, putKs_cons, putKs_nil]; rfl) (by omega) (putN_nodup k2 _ (putN_nodup k1 ns hnd)) (by simp +contextual (disch := omega) [Nat.add_assoc, Int.add_assoc, if_pos, if_neg, -Int.not_lt, -Int.not_le, -Nat.not_lt, -Nat.not_le, -List.length_flatMap]) (by simp +contextual (disch := omega) [Nat.add_assoc, Int.add_assoc, if_pos, if_neg, -Int.not_lt, -Int.not_le, -Nat.not_lt, -Nat.not_le, -List.length_flatMap]) (by simp +contextual (disch := omega) [Nat.add_assoc, Int.add_assoc, if_pos, if_neg, -Int.not_lt, -Int.not_le, -Nat.not_lt, -Nat.not_le, -List.length_flatMap]) (by simp +contextual (disch := omega) [Nat.add_assoc, Int.add_assoc, if_pos, if_neg, -Int.not_lt, -Int.not_le, -Nat.not_lt, -Nat.not_le, -List.length_flatMap, hks]) (by simp +contextual (disch := omega) [Nat.add_assoc, Int.add_assoc, if_pos, if_neg, -Int.not_lt, -Int.not_le, -Nat.not_lt, -Nat.not_le, -List.length_flatMap, hks]) (by omega) (by simp +contextual (disch := omega) [Nat.add_assoc, Int.add_assoc, if_pos, if_neg, -Int.not_lt, -Int.not_le, -Nat.not_lt, -Nat.not_le, -List.length_flatMap, r0]) (by simp +contextual (disch := omega) [Nat.add_assoc, Int.add_assoc, if_pos, if_neg, -Int.not_lt, -Int.not_le, -Nat.not_lt, -Nat.not_le, -List.length_flatMap]) (by simp +contextual (disch := omega) [Nat.add_assoc, Int.add_assoc, if_pos, if_neg, -Int.not_lt, -Int.not_le, -Nat.not_lt, -Nat.not_le, -List.length_flatMap, wa]) (by simp +contextual (disch := omega) [Nat.add_assoc, Int.add_assoc, if_pos, if_neg, -Int.not_lt, -Int.not_le, -Nat.not_lt, -Nat.not_le, -List.length_flatMap, wc]) (w2.mv (by omega) (fun j h => by have := hrB3 j h; simp +contextual (disch := omega) [Nat.add_assoc, Int.add_assoc, if_pos, if_neg, -Int.not_lt, -Int.not_le, -Nat.not_lt, -Nat.not_le, -List.length_flatMap])) wa' wc' (fun j h => by rcases hrB2 j h with h | h; exact .inl h; exact .inr (by omega)) (fun j h1 h2 h3 h4 => ?_)
    have hn : j ∉ refOf B1 := fun h => by
      rcases u3 j h with h | h
      · exact h4 h
      · omega
    rw [Sto.sne _ _ _ _ (by omega), w4 j (by omega) h2 h3 hn]
    simp +contextual (disch := omega) [Nat.add_assoc, Int.add_assoc, if_pos, if_neg, -Int.not_lt, -Int.not_le, -Nat.not_lt, -Nat.not_le, -List.length_flatMap]
    rw [u4 j (by omega) h2 h3 h4]
    simp +contextual (disch := omega) [Nat.add_assoc, Int.add_assoc, if_pos, if_neg, -Int.not_lt, -Int.not_le, -Nat.not_lt, -Nat.not_le, -List.length_flatMap]
  | a :: b :: c :: r => rw [hks] at hk2; simp at hk2
end Pi

