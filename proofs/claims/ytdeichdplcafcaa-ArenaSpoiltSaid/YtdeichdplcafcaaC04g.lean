/- Contracts: arenas (layer 4): the document's Get, Same, put. -/
import Derived.Test.YtdeichdplcafcaaC04f
set_option linter.unusedSimpArgs false
set_option linter.unusedVariables false
namespace Pi
set_option maxRecDepth 20000 in
theorem ref04_Get.a (l : List N) (hl : l.length ≤ 1000000) (i : Int) : Ans ctx ref04_Get.n [.ag [sV cN l], .i .i64 i] (getV l i) := by
  refine ans ref04_Get.f ?_
  have hR := ref04_Right.a l hl
  have e0 : cL (.mk 0 0 []) = [.i .i64 0, .i .i64 0, .sl [] 0] := cL_at _
  unfold getV
  rw [e0]
  cases hr : rightN l with
  | false =>
    rw [hr] at hR
    simp +contextual (disch := omega) [Nat.add_assoc, Int.add_assoc, if_pos, if_neg, -Int.not_lt, -Int.not_le, -Nat.not_lt, -Nat.not_le, -List.length_flatMap, ref04_Get.c, ansK hR]
  | true =>
    rw [hr] at hR
    by_cases h1 : i < 0
    · rw [if_neg (by omega)]
      simp +contextual (disch := omega) [Nat.add_assoc, Int.add_assoc, if_pos, if_neg, -Int.not_lt, -Int.not_le, -Nat.not_lt, -Nat.not_le, -List.length_flatMap, ref04_Get.c, ansK hR, h1]
    · by_cases h2 : (l.length : Int) ≤ i
      · rw [if_neg (by omega)]
        simp +contextual (disch := omega) [Nat.add_assoc, Int.add_assoc, if_pos, if_neg, -Int.not_lt, -Int.not_le, -Nat.not_lt, -Nat.not_le, -List.length_flatMap, ref04_Get.c, ansK hR, h1, h2]
      · obtain ⟨n, rfl⟩ : ∃ n : Nat, i = n := ⟨i.toNat, by omega⟩
        obtain ⟨q1, q2, q3⟩ := right_len hr
        have hS := ref04_measure.a l q1 q2
        obtain ⟨z1, z2⟩ := szT_ok l l.length (Nat.le_refl _)
        have hn : n < (szT l l.length).length := by omega
        have hG := ref04_get.a l q1 q2 n (by omega)
        have ht : ((n : Int)).toNat = n := by omega
        have hgd : (szT l l.length).getD n ⟨0, 0⟩ = (szT l l.length)[n] := by simp [hn]
        rw [if_pos (by simp; omega), ht, hgd]
        generalize levN l n = X at *
        by_cases c1 : (szT l l.length)[n].var ≤ 12
        · by_cases c2 : (szT l l.length)[n].off ≤ 100
          · rw [if_pos ⟨c1, c2⟩]
            simp +contextual (disch := omega) [Nat.add_assoc, Int.add_assoc, if_pos, if_neg, -Int.not_lt, -Int.not_le, -Nat.not_lt, -Nat.not_le, -List.length_flatMap, ref04_Get.c, ansK hR, ansK hS, ansK hG, hn, z1, c1, c2]
          · rw [if_neg (fun h => c2 h.2)]
            simp +contextual (disch := omega) [Nat.add_assoc, Int.add_assoc, if_pos, if_neg, -Int.not_lt, -Int.not_le, -Nat.not_lt, -Nat.not_le, -List.length_flatMap, ref04_Get.c, ansK hR, ansK hS, hn, z1, c1, c2]
        · rw [if_neg (fun h => c1 h.1)]
          simp +contextual (disch := omega) [Nat.add_assoc, Int.add_assoc, if_pos, if_neg, -Int.not_lt, -Int.not_le, -Nat.not_lt, -Nat.not_le, -List.length_flatMap, ref04_Get.c, ansK hR, ansK hS, hn, z1, c1]
theorem ref04_Same.a (l k : List N) (hll : l.length ≤ 1000000) : Ans ctx ref04_Same.n [.ag [sV cN l], .ag [sV cN k]] (.b (decide (l = k))) := by
  obtain ⟨R, hR⟩ : ∃ R, R = decide (l = k) := ⟨_, rfl⟩
  rw [← hR]
  refine ans ref04_Same.f ?_
  by_cases hl : l.length = k.length
  · simp +contextual (disch := omega) [Nat.add_assoc, Int.add_assoc, if_pos, if_neg, -Int.not_lt, -Int.not_le, -Nat.not_lt, -Nat.not_le, -List.length_flatMap, ref04_Same.c, hl]
    refine for_w (fun i e m x => e 2 = .p 0 0 ∧ e 3 = .p 1 0 ∧ e 5 = .i .i64 i ∧ 2 ≤ x ∧ m 0 = some (.cells [sV cN l] false) ∧ m 1 = some (.cells [sV cN k] false) ∧ l.take i = k.take i) l.length ?_ ?_ ?_
    · simp +contextual (disch := omega) [Nat.add_assoc, Int.add_assoc, if_pos, if_neg, -Int.not_lt, -Int.not_le, -Nat.not_lt, -Nat.not_le, -List.length_flatMap]
    · rintro i e m x hi ⟨g2, g3, g5, gx, y0, y1, g4⟩
      have hi' : i < k.length := by omega
      have hEq := eqN l[i] k[i]
      by_cases he : l[i] = k[i]
      · have : l.take (i + 1) = k.take (i + 1) := by rw [List.take_succ_eq_append_getElem hi, List.take_succ_eq_append_getElem hi', g4, he]
        rw [decide_eq_true he] at hEq
        simp +contextual (disch := omega) [Nat.add_assoc, Int.add_assoc, if_pos, if_neg, -Int.not_lt, -Int.not_le, -Nat.not_lt, -Nat.not_le, -List.length_flatMap, ref04_Same.b1, g2, g3, g5, y0, y1, hi, hi', hEq, this]
      · have : R = false := by rw [hR]; exact decide_eq_false (fun h => he (by subst h; rfl))
        rw [decide_eq_false he] at hEq
        simp +contextual (disch := omega) [Nat.add_assoc, Int.add_assoc, if_pos, if_neg, -Int.not_lt, -Int.not_le, -Nat.not_lt, -Nat.not_le, -List.length_flatMap, ref04_Same.b1, g2, g3, g5, y0, y1, hi, hi', hEq, this]
    · rintro e m x ⟨g2, g3, g5, gx, y0, y1, g4⟩
      rw [List.take_length, hl, List.take_length] at g4
      have : R = true := by rw [hR]; exact decide_eq_true g4
      simp +contextual (disch := omega) [Nat.add_assoc, Int.add_assoc, if_pos, if_neg, -Int.not_lt, -Int.not_le, -Nat.not_lt, -Nat.not_le, -List.length_flatMap, ref04_Same.b1, g2, g3, g5, y0, y1, hl, this]
  · have : R = false := by rw [hR]; exact decide_eq_false (fun h => hl (by rw [h]))
    simp +contextual (disch := omega) [Nat.add_assoc, Int.add_assoc, if_pos, if_neg, -Int.not_lt, -Int.not_le, -Nat.not_lt, -Nat.not_le, -List.length_flatMap, ref04_Same.c, this, hl]
/-! What is put, as the document has it. -/
mutual
def putN (l : L) (ns : List N) : List N × Nat := match l with
  | .mk k n ks => match posN ⟨k, n, ((putKs ks ns).2.getD 0 0 : Nat), ((putKs ks ns).2.getD 1 0 : Nat)⟩ (putKs ks ns).1 0 with
    | some j => ((putKs ks ns).1, j)
    | none => ((putKs ks ns).1 ++ [⟨k, n, ((putKs ks ns).2.getD 0 0 : Nat), ((putKs ks ns).2.getD 1 0 : Nat)⟩], (putKs ks ns).1.length)
def putKs (ks : List L) (ns : List N) : List N × List Nat := match ks with
  | [] => (ns, [])
  | k :: r => ((putKs r (putN k ns).1).1, (putN k ns).2 :: (putKs r (putN k ns).1).2)
end
def nodeOf (l : L) (r : List N × List Nat) : N := ⟨l.kind, l.n, (r.2.getD 0 0 : Nat), (r.2.getD 1 0 : Nat)⟩
theorem putN_eq (l : L) (ns : List N) : putN l ns = match posN (nodeOf l (putKs l.kids ns)) (putKs l.kids ns).1 0 with
    | some j => ((putKs l.kids ns).1, j)
    | none => ((putKs l.kids ns).1 ++ [nodeOf l (putKs l.kids ns)], (putKs l.kids ns).1.length) := by
  cases l
  rw [putN]
  rfl
theorem putKs_nil (ns : List N) : putKs [] ns = (ns, []) := by rw [putKs]
theorem putKs_cons (k : L) (r : List L) (ns : List N) : putKs (k :: r) ns = ((putKs r (putN k ns).1).1, (putN k ns).2 :: (putKs r (putN k ns).1).2) := by rw [putKs]
theorem flatN_get (l : List N) (p : Nat) (h : p < l.length) : ((l.flatMap cN).drop (p * 4)).take 4 = cN l[p] := by
  induction l generalizing p with
  | nil => simp at h
  | cons a r ih =>
    rw [List.flatMap_cons]
    cases p with
    | zero => rfl
    | succ p =>
      rw [(by rw [cN_len]; omega : (p + 1) * 4 = (cN a).length + p * 4), List.drop_append, List.drop_of_length_le (by omega), Nat.add_sub_cancel_left, List.nil_append]
      simpa using ih p (by simpa using h)
/-! What things tell of. -/
mutual
theorem over_inn (x : Nat) : ∀ v : V, v.over x = v.inn (fun l => decide (x ≤ l))
  | .p _ _ => rfl
  | .ms _ _ _ _ => rfl
  | .mp _ => rfl
  | .fn (.func _) a c => by rw [V.over, V.inn, overL_inn x a, overL_inn x c]
  | .fn (.method _) _ _ => rfl
  | .fn (.methodOf _ _) _ _ => rfl
  | .fn (.via _ _ _ _) _ _ => rfl
  | .fn (.yield _) _ _ => rfl
  | .fc _ v => by rw [V.over, V.inn, over_inn x v]
  | .ag cs => by rw [V.over, V.inn, overL_inn x cs]
  | .tu cs => by rw [V.over, V.inn, overL_inn x cs]
  | .b _ => rfl
  | .i _ _ => rfl
  | .s _ => rfl
  | .np => rfl
  | .rp _ => rfl
  | .ns => rfl
  | .sl _ _ => rfl
  | .nm => rfl
  | .rm _ _ => rfl
  | .nf => rfl
  | .ni => rfl
  | .un => rfl
theorem overL_inn (x : Nat) : ∀ l : List V, overL x l = innL (fun l => decide (x ≤ l)) l
  | [] => rfl
  | c :: r => by rw [overL, innL, over_inn x c, overL_inn x r]
end
theorem ownO_inn (x : Nat) (o : Option PObj) : ownO x o = innO (fun l => decide (x ≤ l)) o := by
  match o with
  | none => rfl
  | some (.cells cs false) => exact overL_inn x cs
  | some (.cells cs true) => rfl
  | some (.map ks vs false) => simp only [ownO, innO, overL_inn]
  | some (.map ks vs true) => rfl
  | some (.loop _) => rfl
  | some .dfr => rfl
theorem innL_app (S : Nat → Bool) (a b : List V) : innL S (a ++ b) = (innL S a && innL S b) := by
  induction a with
  | nil => rfl
  | cons c r ih => rw [List.cons_append, innL, innL, ih, Bool.and_assoc]
theorem inn_N (S : Nat → Bool) (l : List N) : innL S (l.flatMap cN) = true := by
  induction l with
  | nil => rfl
  | cons a r ih => rw [List.flatMap_cons, innL_app, ih]; rfl
theorem inn_L (S : Nat → Bool) (l : L) : innL S (cL l) = true := by rw [cL_at]; rfl
/-- All of some things tell of them alone. -/
def Inn (S : Nat → Bool) (m : Sto) : Prop := ∀ j, S j = true → innO S (m j) = true
theorem Inn.set {S : Nat → Bool} {m : Sto} (h : Inn S m) {l : Nat} {o : Option PObj} (ho : innO S o = true) : Inn S (m.set l o) := by
  intro j hj
  by_cases e : j = l
  · subst e; rw [Sto.seq]; exact ho
  · rw [Sto.sne _ _ _ _ e]; exact h j hj
theorem Inn.only {S : Nat → Bool} {m : Sto} (h : Inn S m) (R : List Nat) : Inn S (m.only R) := by
  intro j hj
  unfold Sto.only
  split
  · exact h j hj
  · rfl
set_option maxRecDepth 20000 in
theorem ref04_own.w (l : List N) (hl : l.length ≤ 1000000) {B : V} {m : Sto} {x : Nat} {K : CR → Sto → Nat → Prop} (hB : B = sV cN l)
    (hK : ∀ B m' x', x ≤ x' → (∀ j, j < x → m' j = m j) → Eg m' B cN 4 l x x' → (∀ S, (∀ j, x ≤ j → S j = true) → Inn S m → Inn S m' ∧ B.inn S = true) → K (.ret (.ag [B])) m' x') :
    w ctx (envOf [.ag [B]]) m x [] none none (RetG ctx ref04_own.c.rs K) ref04_own.c.code := by
  subst hB
  by_cases h0 : l = []
  · subst h0
    simp +contextual (disch := omega) [Nat.add_assoc, Int.add_assoc, if_pos, if_neg, -Int.not_lt, -Int.not_le, -Nat.not_lt, -Nat.not_le, -List.length_flatMap, ref04_own.c]
    exact hK _ _ _ (by omega) (fun j hj => by simp +contextual (disch := omega) [Nat.add_assoc, Int.add_assoc, if_pos, if_neg, -Int.not_lt, -Int.not_le, -Nat.not_lt, -Nat.not_le, -List.length_flatMap]) Eg.nil (fun S hS h => ⟨((h.set rfl).set rfl).set rfl, rfl⟩)
  · have h1 : l.length ≠ 0 := fun h => h0 (List.eq_nil_of_length_eq_zero h)
    simp +contextual (disch := omega) [Nat.add_assoc, Int.add_assoc, if_pos, if_neg, -Int.not_lt, -Int.not_le, -Nat.not_lt, -Nat.not_le, -List.length_flatMap, ref04_own.c, -apV_ns]
    refine (Eg.nil (f := cN) (k := 4) (m := m) (lo := x) (x := x)).apx l (fun j h => by simp [refOf] at h) (by omega) rfl rfl h1 (by simp; omega) ?_
    intro ws m2 u1 u2 u3
    have r1 : m2 (x + 1) = some (.cells [.ns] false) := by rw [u3 _ (by simp [refOf]) (by omega)]; simp +contextual (disch := omega) [Nat.add_assoc, Int.add_assoc, if_pos, if_neg, -Int.not_lt, -Int.not_le, -Nat.not_lt, -Nat.not_le, -List.length_flatMap]
    simp +contextual (disch := omega) [Nat.add_assoc, Int.add_assoc, if_pos, if_neg, -Int.not_lt, -Int.not_le, -Nat.not_lt, -Nat.not_le, -List.length_flatMap, u1, r1]
    refine hK _ _ _ (by omega) (fun j hj => ?_) (.inr ⟨x + 4, rfl, ?_, by omega, by omega⟩) (fun S hS h => ⟨fun j hj => ?_, hS _ (by omega)⟩)
    · simp +contextual (disch := omega) [Nat.add_assoc, Int.add_assoc, if_pos, if_neg, -Int.not_lt, -Int.not_le, -Nat.not_lt, -Nat.not_le, -List.length_flatMap]
      rw [u3 j (by simp [refOf]) (by omega)]
      simp +contextual (disch := omega) [Nat.add_assoc, Int.add_assoc, if_pos, if_neg, -Int.not_lt, -Int.not_le, -Nat.not_lt, -Nat.not_le, -List.length_flatMap]
    · simp +contextual (disch := omega) [Nat.add_assoc, Int.add_assoc, if_pos, if_neg, -Int.not_lt, -Int.not_le, -Nat.not_lt, -Nat.not_le, -List.length_flatMap, u2]
    · by_cases e1 : j = x + 1
      · subst e1; rw [Sto.seq]; simp [innO, innL, V.inn, hS _ (by omega : x ≤ x + 4)]
      · rw [Sto.sne _ _ _ _ e1]
        by_cases e2 : j = x + 4
        · subst e2; rw [u2]; exact inn_N S _
        · rw [u3 j (by simp [refOf]) e2]
          exact ((h.set rfl).set rfl) j hj
end Pi
