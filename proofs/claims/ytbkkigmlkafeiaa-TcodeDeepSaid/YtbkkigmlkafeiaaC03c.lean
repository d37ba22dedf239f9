/- Contracts: levels as bytes (layer 3): the document's reader. -/
import Derived.Test.YtbkkigmlkafeiaaC03a
import Derived.Test.YtbkkigmlkafeiaaC01
import Derived.Test.YtbkkigmlkafeiaaEnc
set_option linter.unusedSimpArgs false
set_option linter.unusedVariables false
namespace Pi
theorem ref03_reader_number.w {m : Sto} {x p : Nat} {K : CR → Sto → Nat → Prop} (l : List Nat) (hl : Byt l) (hn : l.length ≤ 10000) (a n : Nat) (hp : p < x) (hm : m p = some (.cells [.s (bs l), .i .i64 a, .i .i64 n, .i .i64 0] false))
    (h1 : (getS l a).2.2 ≠ 0 → ∀ x', x ≤ x' → K (.ret (.i .i64 0)) (m.set p (some (.cells [.s (bs l), .i .i64 a, .i .i64 n, .i .i64 (getS l a).2.2] false))) x')
    (h2 : (getS l a).2.2 = 0 → ∀ x', x ≤ x' → K (.ret (.i .i64 (getS l a).1)) (m.set p (some (.cells [.s (bs l), .i .i64 (getS l a).2.1, .i .i64 n, .i .i64 0] false))) x') :
    w ctx (envOf [.p p 0]) m x [] none none (RetG ctx ref03_reader_number.c.rs K) ref03_reader_number.c.code := by
  have hG := ref01_Get.a l a hl hn
  generalize getS l a = r at *
  obtain ⟨r1, r2, r3⟩ := r
  simp only at h1 h2
  unfold t3 at hG
  simp only at hG
  by_cases h3 : r3 = 0
  · subst h3
    simp +contextual (disch := omega) [Nat.add_assoc, Int.add_assoc, if_pos, if_neg, -Int.not_lt, -Int.not_le, -Nat.not_lt, -Nat.not_le, -List.length_flatMap, ref03_reader_number.c, hm, ansK hG]
    exact h2 rfl _ (by omega)
  · simp +contextual (disch := omega) [Nat.add_assoc, Int.add_assoc, if_pos, if_neg, -Int.not_lt, -Int.not_le, -Nat.not_lt, -Nat.not_le, -List.length_flatMap, ref03_reader_number.c, hm, ansK hG, h3]
    exact h1 h3 _ (by omega)
/-- What a reading of the document's comes to. -/
def Post : RR → L → Int → Int → Int → Prop
  | .ok v a n, v', a', n', e' => v' = v ∧ a' = a ∧ n' = n ∧ e' = 0
  | .bad e, _, _, _, e' => e' = e ∧ e ≠ 0
def RefK (l : List Nat) (p x : Nat) (m : Sto) (d : Nat) (K : CR → Sto → Nat → Prop) (r : RR) : Prop :=
  ∀ cs m' x' v (a n e : Int), Post r v a n e → x ≤ x' → (∀ j, j < x → j ≠ p → m' j = m j) → m' p = some (.cells [.s (bs l), .i .i64 a, .i .i64 n, .i .i64 e] false) → InnM p x m' → cs.length = 3 → innL (orNew [p] x) cs = true → FzAt m' x x' d cs (cL v) → K (.ret (.ag cs)) m' x'
def RefQ (l : List Nat) (p x : Nat) (m : Sto) (d : Nat) (K : QR → Prop) (r : RR) : Prop :=
  ∀ cs ws ids x' v (a n e : Int), Post r v a n e → x ≤ x' → (∀ j, j < x → j ≠ p → (m.app ws) j = m j) → (∀ j, x' ≤ j → (m.app ws) j = m j) → (m.app ws) p = some (.cells [.s (bs l), .i .i64 a, .i .i64 n, .i .i64 e] false) → (∀ j, x ≤ j → j < x' → innO (orNew [p] x) ((m.app ws) j) = true) →
      (∀ j ∈ ids, j = p ∨ (x ≤ j ∧ j < x')) → ws.map Prod.fst = ids → cs.length = 3 → innL (orNew [p] x) cs = true → FzAt (m.app ws) x x' d cs (cL v) → K ⟨.ag cs, ws, ids, x', false⟩
theorem ref_q {g : Nat} {F : PFun} (hF : ctx.fns g = some F) (hpr : ctx.prim g = none) (ho : ctx.opn g = true) (hq : ctx.frz g = false) (l : List Nat) (p d : Nat) (v : V) (hv : v = .i .i64 ((12 : Int) - d)) {r : RR} {a n : Nat}
    (hw : ∀ {m : Sto} {x : Nat} {K : CR → Sto → Nat → Prop}, p < x → m p = some (.cells [.s (bs l), .i .i64 a, .i .i64 n, .i .i64 0] false) → (∀ j, x ≤ j → m j = none) → RefK l p x m d K r → w ctx (envOf [.p p 0, .i .i64 ((12 : Int) - d)]) m x [] none none (RetG ctx F.rs K) F.code)
    {m : Sto} {x : Nat} {K : QR → Prop} (hp : p < x) (hm : m p = some (.cells [.s (bs l), .i .i64 a, .i .i64 n, .i .i64 0] false)) (hK : RefQ l p x m d K r) : wpQuiet ctx (.fn (.func g) [] []) [.p p 0, v] m x K := by
  subst hv
  have hz : freezeL m ([] ++ [.p p 0, .i .i64 ((12 : Int) - d)] ++ []) = some ([.rp [.s (bs l), .i .i64 a, .i .i64 n, .i .i64 0], .i .i64 ((12 : Int) - d)], [p]) := by
    simp +contextual (disch := omega) [Nat.add_assoc, Int.add_assoc, if_pos, if_neg, -Int.not_lt, -Int.not_le, -Nat.not_lt, -Nat.not_le, -List.length_flatMap, hm]
  have honly : (m.only [p]) p = some (.cells [.s (bs l), .i .i64 a, .i .i64 n, .i .i64 0] false) := by unfold Sto.only; rw [if_pos (by simp), hm]
  have hnone : ∀ j, x ≤ j → (m.only [p]) j = none := fun j hj => by unfold Sto.only; rw [if_neg (by simp; omega)]
  refine openr_w hF hpr ho hq hz (.inl (by simp)) ?_ ?_
  · simp [reachOK, innL, V.inn, hm, innO, hp]
  refine hw hp honly hnone ?_
  have hxx : ∀ x', x ≤ x' → x + (x' - x) = x' := fun x' h => by omega
  intro cs m' x' u a' n' e' hP h1 h2 h3 h4 h5 h6 h7
  show ReachK [p] x (.ag cs) m' x' K false
  refine ⟨by simpa [V.inn] using h6, fun j hj => ?_, fun j q1 q2 => h4 j q1, fun ws ids w1 w2 w3 => ?_⟩
  · rw [List.mem_singleton.1 hj, h3]; simp [innO, innL, V.inn]
  · rw [hxx _ h1]
    have s4 : ∀ j, x ≤ j → j < x' → (m.app ws) j = m' j := fun j h1 h2 => by rw [w3, if_pos ⟨h1, h2⟩]
    refine hK cs ws ids x' u a' n' e' hP h1 (fun j h1 h2 => ?_) (fun j h1 => ?_) ?_ (fun j q1 q2 => by rw [s4 j q1 q2]; exact h4 j q1) (fun j hj => by have := w1 j hj; simpa using this) w2 h5 h6 (h7.wide (Nat.le_refl _) (Nat.le_refl _) s4)
    · rw [w3, if_neg (by omega), if_neg (by simpa using h2)]
    · rw [w3, if_neg (by omega), if_neg (by simp; omega)]
    · rw [w3, if_neg (by omega), if_pos (by simp), h3]
/-- What stands behind a round of the loop. -/
def RefR (l : List Nat) (p x0 y d : Nat) (k : Int) (c i : Nat) (vs : List L) (M : Sto) (x : Nat) (Q : X → S → Prop) (b : PCode) (dv : V) (r : RR) : Prop :=
  ∀ e' M' x' B' v (a n er : Int), Post r v a n er → x ≤ x' → (∀ j, j < y → j ≠ p → M' j = M j) → M' p = some (.cells [.s (bs l), .i .i64 a, .i .i64 n, .i .i64 er] false) → M' y = some (.cells [.i .i64 k, .i .i64 0, B'] false) → Bn M' B' cL 3 (vs ++ [v]) (y + 1) x' d → InnM p x0 M' → B'.inn (orNew [p] x0) = true →
      (e' 0 = .p p 0 ∧ e' 1 = dv ∧ e' 4 = .p x0 0 ∧ e' 5 = .p y 0 ∧ e' 6 = .i .i64 c ∧ e' 8 = .i .i64 (i + 1 : Nat)) → w ctx e' M' x' [] none none Q (.loop b)
set_option maxHeartbeats 2000000 in
theorem ref03_round (l : List Nat) (p x0 y d : Nat) (k : Int) (c i a n : Nat) (vs : List L) {M : Sto} {x : Nat} {B : V} {e : Env} {Q : X → S → Prop} (hd : d ≤ 11)
    (hw : ∀ {m : Sto} {x : Nat} {K : CR → Sto → Nat → Prop}, p < x → m p = some (.cells [.s (bs l), .i .i64 a, .i .i64 n, .i .i64 0] false) → (∀ j, x ≤ j → m j = none) → RefK l p x m d K (rdL l d a n) → w ctx (envOf [.p p 0, .i .i64 ((12 : Int) - d)]) m x [] none none (RetG ctx ref03_reader_level.c.rs K) ref03_reader_level.c.code)
    (he : e 0 = .p p 0 ∧ e 1 = .i .i64 ((12 : Int) - (d + 1)) ∧ e 4 = .p x0 0 ∧ e 5 = .p y 0 ∧ e 6 = .i .i64 c ∧ e 8 = .i .i64 i) (hi : i < c) (hc : c ≤ 2) (hp : p < x0) (hy : x0 < y) (hx : y < x) (hv : vs.length ≤ 2)
    (h1 : M p = some (.cells [.s (bs l), .i .i64 a, .i .i64 n, .i .i64 0] false)) (h2 : M y = some (.cells [.i .i64 k, .i .i64 0, B] false)) (hB : Bn M B cL 3 vs (y + 1) x d) (hI : InnM p x0 M) (hBi : B.inn (orNew [p] x0) = true)
    (hK : RefR l p x0 y d k c i vs M x Q ref03_reader_level.b1 (.i .i64 ((12 : Int) - (d + 1))) (rdL l d a n)) : w ctx e M x [] none none (LpU ctx ref03_reader_level.b1 Q) ref03_reader_level.b1 := by
  obtain ⟨e0, e1, e4, e5, e54, e55⟩ := he
  have hd1 : ((12 : Int) - (d + 1) + 1) = 12 - d := by omega
  simp +contextual (disch := omega) [Nat.add_assoc, Int.add_assoc, if_pos, if_neg, -Int.not_lt, -Int.not_le, -Nat.not_lt, -Nat.not_le, -List.length_flatMap, ref03_reader_level.b1, e0, e1, e5, e54, e55, hi, h1, h2, hd1]
  rw [CallQ_op (by rfl)]
  refine ref_q ref03_reader_level.f rfl rfl rfl l p d _ rfl hw (by omega) h1 ?_
  intro cs ws ids x' v a' n' er hP q1 q2 q3 q4 q5 q6 q7 q8 q9 q10
  have hws : ∀ (a : Nat) (b : Option PObj), (a, b) ∈ ws → ¬ a = y := fun a b h e => by
    have h1 : a ∈ ids := by rw [← q7]; exact List.mem_map.2 ⟨(a, b), h, rfl⟩
    have := q6 a h1
    omega
  simp +contextual (disch := omega) [Nat.add_assoc, Int.add_assoc, if_pos, if_neg, -Int.not_lt, -Int.not_le, -Nat.not_lt, -Nat.not_le, -List.length_flatMap]
  rw [IfK_pos ⟨hws, by omega⟩, List.take_of_length_le (by omega)]
  generalize hM2 : Sto.set (M.app ws) x' _ = M2
  have hj2 : ∀ j, j < x → j ≠ p → M2 j = M j := fun j h1 h2 => by rw [← hM2, Sto.sne _ _ _ _ (by omega), q2 j (by omega) h2]
  have hI2 : InnM p x0 M2 := by
    rw [← hM2]
    refine InnM.set (fun j hj => ?_) (fun _ => by simpa [innO] using innL_mono (orNew_up (by omega)) cs q9)
    by_cases hjx : j < x + 15
    · rw [q2 j hjx (by omega)]; exact hI j hj
    · by_cases hjx' : j < x'
      · exact innO_mono (orNew_up (by omega)) _ (q5 j (by omega) hjx')
      · rw [q3 j (by omega)]; exact hI j hj
  have hp2 : M2 p = some (.cells [.s (bs l), .i .i64 a', .i .i64 n', .i .i64 er] false) := by rw [← hM2, Sto.sne _ _ _ _ (by omega), q4]
  refine opK_with (fun v ws => InnM p x0 (M2.app ws) ∧ v.inn (orNew [p] x0) = true) (fun v ws h => InnM.ap hI2 hB (fun j h1 h2 => hj2 j h2 (by omega)) (by omega) (by omega) (innL_mono (orNew_up (by omega)) cs q9) h) ?_
  refine hB.ap v (fun j h1 h2 => hj2 j h2 (by omega)) (by omega) (by omega) (q10.wide (by omega) (by omega) (fun j h1 h2 => by rw [← hM2, Sto.sne _ _ _ _ (by omega)])) q8 rfl (by omega) ?_
  intro B' ws2 M3 z0 z1 z2 z3 z4
  rw [z0] at z4
  have t1 := (z2 y (by omega)).trans ((hj2 y (by omega) (by omega)).trans h2)
  simp +contextual (disch := omega) [Nat.add_assoc, Int.add_assoc, if_pos, if_neg, -Int.not_lt, -Int.not_le, -Nat.not_lt, -Nat.not_le, -List.length_flatMap, z0, t1, z1.stor, z1.cells, e0, e1, e4, e5, e54, e55]
  refine hK _ _ _ B' v a' n' er hP (by omega) (fun j h1 h2 => ?_) ?_ ?_ ?_ ?_ z4.2 ?_
  · rw [Sto.sne _ _ _ _ (by omega), z2 j (by omega), hj2 j (by omega) h2]
  · rw [Sto.sne _ _ _ _ (by omega), z2 p (by omega), hp2]
  · rw [Sto.seq]
  · exact z1.up (by omega) (fun j h1 h2 => Sto.sne _ _ _ _ (by omega))
  · refine z4.1.set (fun _ => ?_)
    simp [innO, innL, V.inn, z4.2]
  · simp +contextual (disch := omega) [Nat.add_assoc, Int.add_assoc, if_pos, if_neg, -Int.not_lt, -Int.not_le, -Nat.not_lt, -Nat.not_le, -List.length_flatMap, e0, e1, e4, e5, e54, e55]
set_option maxHeartbeats 2000000 in
theorem ref03_reader_level.w (l : List Nat) (hl : Byt l) (hn : l.length ≤ 10000) (p : Nat) : ∀ (d : Nat), d ≤ 12 → ∀ (a n : Nat) {m : Sto} {x : Nat} {K : CR → Sto → Nat → Prop}, p < x → m p = some (.cells [.s (bs l), .i .i64 a, .i .i64 n, .i .i64 0] false) → (∀ j, x ≤ j → m j = none) →
    RefK l p x m d K (rdL l d a n) →
    w ctx (envOf [.p p 0, .i .i64 ((12 : Int) - d)]) m x [] none none (RetG ctx ref03_reader_level.c.rs K) ref03_reader_level.c.code := by
  intro d
  induction d with
  | zero =>
    intro hd a n m x K hp hm hN hK
    simp +contextual (disch := omega) [Nat.add_assoc, Int.add_assoc, if_pos, if_neg, -Int.not_lt, -Int.not_le, -Nat.not_lt, -Nat.not_le, -List.length_flatMap, ref03_reader_level.c, hm]
    refine hK _ _ _ (.mk 0 0 []) a n 2 ⟨rfl, by omega⟩ (by omega) (fun j h1 h2 => ?_) ?_ ?_ rfl rfl (fun m2 _ dd _ => ⟨[], by simp⟩)
    · simp +contextual (disch := omega) [Nat.add_assoc, Int.add_assoc, if_pos, if_neg, -Int.not_lt, -Int.not_le, -Nat.not_lt, -Nat.not_le, -List.length_flatMap]
    · simp +contextual (disch := omega) [Nat.add_assoc, Int.add_assoc, if_pos, if_neg, -Int.not_lt, -Int.not_le, -Nat.not_lt, -Nat.not_le, -List.length_flatMap]
    · exact (((InnM.none hN).set (fun _ => rfl)).set (fun h => by omega)).set (fun _ => rfl)
  | succ d ih =>
    intro hd a n m x K hp hm hN hK
    have hfn : ctx.frz ref03_reader_number.n = false := rfl
    have hfl : ctx.frz ref03_reader_level.n = false := rfl
    unfold rdL at hK
    have hdd : ¬ (12 : Int) ≤ 12 - (d + 1) := by omega
    by_cases h100 : 100 ≤ n
    · rw [if_pos h100] at hK
      simp +contextual (disch := omega) [Nat.add_assoc, Int.add_assoc, if_pos, if_neg, -Int.not_lt, -Int.not_le, -Nat.not_lt, -Nat.not_le, -List.length_flatMap, ref03_reader_level.c, hm, h100, hdd]
      refine hK _ _ _ (.mk 0 0 []) a n 2 ⟨rfl, by omega⟩ (by omega) (fun j h1 h2 => ?_) ?_ ?_ rfl rfl (fun m2 _ dd _ => ⟨[], by simp⟩)
      · simp +contextual (disch := omega) [Nat.add_assoc, Int.add_assoc, if_pos, if_neg, -Int.not_lt, -Int.not_le, -Nat.not_lt, -Nat.not_le, -List.length_flatMap]
      · simp +contextual (disch := omega) [Nat.add_assoc, Int.add_assoc, if_pos, if_neg, -Int.not_lt, -Int.not_le, -Nat.not_lt, -Nat.not_le, -List.length_flatMap]
      · exact (((InnM.none hN).set (fun _ => rfl)).set (fun h => by omega)).set (fun _ => rfl)
    rw [if_neg h100] at hK
    have h100' : ¬ (100 : Int) ≤ n := by omega
    simp +contextual (disch := omega) [Nat.add_assoc, Int.add_assoc, if_pos, if_neg, -Int.not_lt, -Int.not_le, -Nat.not_lt, -Nat.not_le, -List.length_flatMap, ref03_reader_level.c, hm, h100', hdd]
    rw [CallX_op (by rfl)]
    refine openg_w rfl rfl (.inl rfl) ?_
    rw [hfn]
    refine ref03_reader_number.w l hl hn a (n + 1) (by omega) (by simp +contextual (disch := omega) [Nat.add_assoc, Int.add_assoc, if_pos, if_neg, -Int.not_lt, -Int.not_le, -Nat.not_lt, -Nat.not_le, -List.length_flatMap]) ?_ ?_
    · intro h0 x2 hx2
      rw [if_pos h0] at hK
      generalize (getS l a).2.2 = g0 at hK h0 ⊢
      have h0' : ¬ (g0 : Int) = 0 := by omega
      simp +contextual (disch := omega) [Nat.add_assoc, Int.add_assoc, if_pos, if_neg, -Int.not_lt, -Int.not_le, -Nat.not_lt, -Nat.not_le, -List.length_flatMap, h0, h0']
      refine un_w ?_
      simp +contextual (disch := omega) [Nat.add_assoc, Int.add_assoc, if_pos, if_neg, -Int.not_lt, -Int.not_le, -Nat.not_lt, -Nat.not_le, -List.length_flatMap, ref03_reader_level.b1, h0, h0']
      refine hK _ _ _ (.mk 0 0 []) a (n + 1) g0 ⟨rfl, h0⟩ (by omega) (fun j h1 h2 => ?_) ?_ ?_ rfl rfl (fun m2 _ dd _ => ⟨[], by simp⟩)
      · simp +contextual (disch := omega) [Nat.add_assoc, Int.add_assoc, if_pos, if_neg, -Int.not_lt, -Int.not_le, -Nat.not_lt, -Nat.not_le, -List.length_flatMap]
      · simp +contextual (disch := omega) [Nat.add_assoc, Int.add_assoc, if_pos, if_neg, -Int.not_lt, -Int.not_le, -Nat.not_lt, -Nat.not_le, -List.length_flatMap]
      · exact (((((InnM.none hN).set (fun _ => rfl)).set (fun h => by omega)).set (fun h => by omega)).set (fun _ => rfl)).set (fun _ => rfl) |>.set (fun _ => rfl)
    intro h0 x2 hx2
    rw [if_neg (by omega)] at hK
    generalize getS l a = r at hK h0 ⊢
    obtain ⟨k, a1, e1⟩ := r
    simp only at hK h0 ⊢
    obtain ⟨M, hM⟩ : ∃ M, M = ((((m.set x (some (.cells [.i .i64 0, .i .i64 0, .ns] false))).set p (some (.cells [.s (bs l), .i .i64 a, .i .i64 (n + 1), .i .i64 0] false))).set p (some (.cells [.s (bs l), .i .i64 a1, .i .i64 (n + 1), .i .i64 0] false)))) := ⟨_, rfl⟩
    have hMx : M x = some (.cells [.i .i64 0, .i .i64 0, .ns] false) := by rw [hM]; simp +contextual (disch := omega) [Nat.add_assoc, Int.add_assoc, if_pos, if_neg, -Int.not_lt, -Int.not_le, -Nat.not_lt, -Nat.not_le, -List.length_flatMap]
    have hMp : M p = some (.cells [.s (bs l), .i .i64 a1, .i .i64 (n + 1 : Nat), .i .i64 0] false) := by rw [hM]; simp +contextual (disch := omega) [Nat.add_assoc, Int.add_assoc, if_pos, if_neg, -Int.not_lt, -Int.not_le, -Nat.not_lt, -Nat.not_le, -List.length_flatMap]
    have hMj : ∀ j, j < x → j ≠ p → M j = m j := fun j h1 h2 => by rw [hM]; simp +contextual (disch := omega) [Nat.add_assoc, Int.add_assoc, if_pos, if_neg, -Int.not_lt, -Int.not_le, -Nat.not_lt, -Nat.not_le, -List.length_flatMap]
    have hMI : InnM p x M := by
      rw [hM]
      exact (((InnM.none hN).set (fun _ => rfl)).set (fun h => rfl)).set (fun h => rfl)
    have hk : k = 1 ∨ k = 2 ∨ k = 3 ∨ k = 4 ∨ k = 5 ∨ k = 6 ∨ (k ≠ 1 ∧ k ≠ 2 ∧ k ≠ 3 ∧ k ≠ 4 ∧ k ≠ 5 ∧ k ≠ 6) := by omega
    rcases hk with rfl | rfl | rfl | rfl | rfl | rfl | ⟨k1, k2, k3, k4, k5, k6⟩
    · rw [if_pos rfl] at hK
      simp +contextual (disch := omega) [Nat.add_assoc, Int.add_assoc, if_pos, if_neg, -Int.not_lt, -Int.not_le, -Nat.not_lt, -Nat.not_le, -List.length_flatMap, hM.symm, hMx, hMp]
      refine un_w ?_
      simp +contextual (disch := omega) [Nat.add_assoc, Int.add_assoc, if_pos, if_neg, -Int.not_lt, -Int.not_le, -Nat.not_lt, -Nat.not_le, -List.length_flatMap, ref03_reader_level.b1, hMx, hMp]
      refine hK _ _ _ (.mk 1 0 []) a1 (n + 1 : Nat) 0 ⟨rfl, rfl, rfl, rfl⟩ (by omega) (fun j h1 h2 => ?_) ?_ ?_ rfl rfl (fun m2 _ dd _ => ⟨[], by simp⟩)
      · rw [Sto.sne _ _ _ _ (by omega), Sto.sne _ _ _ _ (by omega), Sto.sne _ _ _ _ (by omega), hMj j h1 h2]
      · rw [Sto.sne _ _ _ _ (by omega), Sto.sne _ _ _ _ (by omega), Sto.sne _ _ _ _ (by omega), hMp]
      · exact ((hMI.set (fun _ => rfl)).set (fun _ => rfl)).set (fun _ => rfl)
    · rw [if_neg (by omega), if_neg (by omega), if_pos rfl] at hK
      simp +contextual (disch := omega) [Nat.add_assoc, Int.add_assoc, if_pos, if_neg, -Int.not_lt, -Int.not_le, -Nat.not_lt, -Nat.not_le, -List.length_flatMap, hM.symm, hMx, hMp]
      refine un_w ?_
      refine ref03_round l p x (x2 + 1) d 2 1 0 a1 (n + 1) [] (B := .ns) (by omega) (fun hp hm hN hK => ih (by omega) a1 (n + 1) hp hm hN hK) (by simp +contextual (disch := omega) [Nat.add_assoc, Int.add_assoc, if_pos, if_neg, -Int.not_lt, -Int.not_le, -Nat.not_lt, -Nat.not_le, -List.length_flatMap]) (by omega) (by omega) hp (by omega) (by omega) (by simp) (by simp +contextual (disch := omega) [Nat.add_assoc, Int.add_assoc, if_pos, if_neg, -Int.not_lt, -Int.not_le, -Nat.not_lt, -Nat.not_le, -List.length_flatMap, hMp]) (by simp +contextual (disch := omega) [Nat.add_assoc, Int.add_assoc, if_pos, if_neg, -Int.not_lt, -Int.not_le, -Nat.not_lt, -Nat.not_le, -List.length_flatMap]) Bn.nil ((hMI.set (fun _ => rfl)).set (fun _ => rfl)) rfl ?_
      intro e3 M3 x3 B3 v2 a3 n3 er hP s1 s2 s3 s4 s5 s6 s7 s8
      have t0 : M3 x = some (.cells [.i .i64 0, .i .i64 0, .ns] false) := by rw [s2 x (by omega) (by omega), Sto.sne _ _ _ _ (by omega), Sto.sne _ _ _ _ (by omega), hMx]
      have t9 : ∀ j, j < x → j ≠ p → M3 j = m j := fun j h1 h2 => by rw [s2 j (by omega) h2, Sto.sne _ _ _ _ (by omega), Sto.sne _ _ _ _ (by omega), hMj j h1 h2]
      obtain ⟨s80, s81, s84, s85, s854, s855⟩ := s8
      have hP' : Post ((rdL l d a1 (n + 1)).bind fun v a' n' => .ok (.mk 2 0 [v]) a' n') (.mk 2 0 [v2]) a3 n3 er := by
        cases hr : rdL l d a1 (n + 1) with
        | bad e => rw [hr] at hP; exact hP
        | ok v a' n' => rw [hr] at hP; obtain ⟨rfl, h⟩ := hP; exact ⟨rfl, h⟩
      refine un_w ?_
      simp +contextual (disch := omega) [Nat.add_assoc, Int.add_assoc, if_pos, if_neg, -Int.not_lt, -Int.not_le, -Nat.not_lt, -Nat.not_le, -List.length_flatMap, ref03_reader_level.b1, s80, s81, s84, s85, s854, s855, s3, s4, t0]
      refine hK _ _ _ (.mk 2 0 [v2]) a3 n3 er hP' (by omega) (fun j h1 h2 => ?_) ?_ ?_ rfl ?_ ?_
      · rw [Sto.sne _ _ _ _ (by omega), t9 j h1 h2]
      · rw [Sto.sne _ _ _ _ (by omega), s3]
      · exact s6.set (fun _ => by simp [innO, innL, V.inn, s7])
      · simp [innL, V.inn, s7]
      · have z := (s5.up (m' := M3.set x (some (.cells [.i .i64 2, .i .i64 0, B3] false))) (x' := x3 + 7) (by omega) (fun j h1 h2 => Sto.sne _ _ _ _ (by omega))).at
        have z3 := (FzAt.fr (m := M3.set x (some (.cells [.i .i64 2, .i .i64 0, B3] false))) (lo := x2 + 1 + 1) (x := x3 + 7) (k := d + 1) (cs := [.i .i64 2, .i .i64 0]) (by simp)).app z
        rw [cL_at]
        simpa using z3.low (lo' := x) (by omega)
    · rw [if_neg (by omega), if_neg (by omega), if_neg (by omega), if_pos (.inl rfl)] at hK
      simp +contextual (disch := omega) [Nat.add_assoc, Int.add_assoc, if_pos, if_neg, -Int.not_lt, -Int.not_le, -Nat.not_lt, -Nat.not_le, -List.length_flatMap, hM.symm, hMx, hMp]
      refine un_w ?_
      refine ref03_round l p x (x2 + 1) d 3 2 0 a1 (n + 1) [] (B := .ns) (by omega) (fun hp hm hN hK => ih (by omega) a1 (n + 1) hp hm hN hK) (by simp +contextual (disch := omega) [Nat.add_assoc, Int.add_assoc, if_pos, if_neg, -Int.not_lt, -Int.not_le, -Nat.not_lt, -Nat.not_le, -List.length_flatMap]) (by omega) (by omega) hp (by omega) (by omega) (by simp) (by simp +contextual (disch := omega) [Nat.add_assoc, Int.add_assoc, if_pos, if_neg, -Int.not_lt, -Int.not_le, -Nat.not_lt, -Nat.not_le, -List.length_flatMap, hMp]) (by simp +contextual (disch := omega) [Nat.add_assoc, Int.add_assoc, if_pos, if_neg, -Int.not_lt, -Int.not_le, -Nat.not_lt, -Nat.not_le, -List.length_flatMap]) Bn.nil ((hMI.set (fun _ => rfl)).set (fun _ => rfl)) rfl ?_
      intro e3 M3 x3 B3 v2 a3 n3 er hP s1 s2 s3 s4 s5 s6 s7 s8
      have t0 : M3 x = some (.cells [.i .i64 0, .i .i64 0, .ns] false) := by rw [s2 x (by omega) (by omega), Sto.sne _ _ _ _ (by omega), Sto.sne _ _ _ _ (by omega), hMx]
      have t9 : ∀ j, j < x → j ≠ p → M3 j = m j := fun j h1 h2 => by rw [s2 j (by omega) h2, Sto.sne _ _ _ _ (by omega), Sto.sne _ _ _ _ (by omega), hMj j h1 h2]
      cases hr : rdL l d a1 (n + 1) with
      | bad e =>
        rw [hr] at hP hK
        obtain ⟨hP1, hP2⟩ := hP
        have her : ¬ er = 0 := by omega
        obtain ⟨s80, s81, s84, s85, s854, s855⟩ := s8
        simp only [RR.bind] at hK
        refine un_w ?_
        simp +contextual (disch := omega) [Nat.add_assoc, Int.add_assoc, if_pos, if_neg, -Int.not_lt, -Int.not_le, -Nat.not_lt, -Nat.not_le, -List.length_flatMap, ref03_reader_level.b1, s80, s81, s84, s85, s854, s855, s3, s4, t0, her]
        refine hK _ _ _ (.mk 3 0 [v2]) a3 n3 er ⟨hP1, hP2⟩ (by omega) (fun j h1 h2 => ?_) ?_ ?_ rfl ?_ ?_
        · rw [Sto.sne _ _ _ _ (by omega), t9 j h1 h2]
        · rw [Sto.sne _ _ _ _ (by omega), s3]
        · exact s6.set (fun _ => by simp [innO, innL, V.inn, s7])
        · simp [innL, V.inn, s7]
        · have z := (s5.up (m' := M3.set x (some (.cells [.i .i64 3, .i .i64 0, B3] false))) (x' := x3 + 12) (by omega) (fun j h1 h2 => Sto.sne _ _ _ _ (by omega))).at
          have z3 := (FzAt.fr (m := M3.set x (some (.cells [.i .i64 3, .i .i64 0, B3] false))) (lo := x2 + 1 + 1) (x := x3 + 12) (k := d + 1) (cs := [.i .i64 3, .i .i64 0]) (by simp)).app z
          rw [cL_at]
          simpa using z3.low (lo' := x) (by omega)
      | ok v a' n' =>
        rw [hr] at hP hK
        obtain ⟨rfl, rfl, rfl, rfl⟩ := hP
        simp only [RR.bind] at hK
        refine un_w ?_
        refine ref03_round l p x (x2 + 1) d 3 2 1 a' n' [v2] (B := B3) (by omega) (fun hp hm hN hK => ih (by omega) a' n' hp hm hN hK) s8 (by omega) (by omega) hp (by omega) (by omega) (by simp) s3 s4 s5 s6 s7 ?_
        clear s3 s4 s5 s6 s7 s8
        intro e4 M4 x4 B4 v4 a4 n4 er4 hP r1 r2 s3 s4 s5 s6 s7 s8
        obtain ⟨s80, s81, s84, s85, s854, s855⟩ := s8
        have t0' : M4 x = some (.cells [.i .i64 0, .i .i64 0, .ns] false) := by rw [r2 x (by omega) (by omega), t0]
        have t9' : ∀ j, j < x → j ≠ p → M4 j = m j := fun j h1 h2 => by rw [r2 j (by omega) h2, t9 j h1 h2]
        have hP' : Post ((rdL l d a' n').bind fun u a2 n2 => .ok (.mk 3 0 [v2, u]) a2 n2) (.mk 3 0 [v2, v4]) a4 n4 er4 := by
          cases hr : rdL l d a' n' with
          | bad e => rw [hr] at hP; exact hP
          | ok v a' n' => rw [hr] at hP; obtain ⟨rfl, h⟩ := hP; exact ⟨rfl, h⟩
        refine un_w ?_
        simp +contextual (disch := omega) [Nat.add_assoc, Int.add_assoc, if_pos, if_neg, -Int.not_lt, -Int.not_le, -Nat.not_lt, -Nat.not_le, -List.length_flatMap, ref03_reader_level.b1, s80, s81, s84, s85, s854, s855, s3, s4, t0']
        refine hK _ _ _ (.mk 3 0 [v2, v4]) a4 n4 er4 hP' (by omega) (fun j h1 h2 => ?_) ?_ ?_ rfl ?_ ?_
        · rw [Sto.sne _ _ _ _ (by omega), t9' j h1 h2]
        · rw [Sto.sne _ _ _ _ (by omega), s3]
        · exact s6.set (fun _ => by simp [innO, innL, V.inn, s7])
        · simp [innL, V.inn, s7]
        · have z := (s5.up (m' := M4.set x (some (.cells [.i .i64 3, .i .i64 0, B4] false))) (x' := x4 + 7) (by omega) (fun j h1 h2 => Sto.sne _ _ _ _ (by omega))).at
          have z3 := (FzAt.fr (m := M4.set x (some (.cells [.i .i64 3, .i .i64 0, B4] false))) (lo := x2 + 1 + 1) (x := x4 + 7) (k := d + 1) (cs := [.i .i64 3, .i .i64 0]) (by simp)).app z
          rw [cL_at]
          simpa using z3.low (lo' := x) (by omega)
    · rw [if_neg (by omega), if_neg (by omega), if_neg (by omega), if_pos (.inr rfl)] at hK
      simp +contextual (disch := omega) [Nat.add_assoc, Int.add_assoc, if_pos, if_neg, -Int.not_lt, -Int.not_le, -Nat.not_lt, -Nat.not_le, -List.length_flatMap, hM.symm, hMx, hMp]
      refine un_w ?_
      refine ref03_round l p x (x2 + 1) d 4 2 0 a1 (n + 1) [] (B := .ns) (by omega) (fun hp hm hN hK => ih (by omega) a1 (n + 1) hp hm hN hK) (by simp +contextual (disch := omega) [Nat.add_assoc, Int.add_assoc, if_pos, if_neg, -Int.not_lt, -Int.not_le, -Nat.not_lt, -Nat.not_le, -List.length_flatMap]) (by omega) (by omega) hp (by omega) (by omega) (by simp) (by simp +contextual (disch := omega) [Nat.add_assoc, Int.add_assoc, if_pos, if_neg, -Int.not_lt, -Int.not_le, -Nat.not_lt, -Nat.not_le, -List.length_flatMap, hMp]) (by simp +contextual (disch := omega) [Nat.add_assoc, Int.add_assoc, if_pos, if_neg, -Int.not_lt, -Int.not_le, -Nat.not_lt, -Nat.not_le, -List.length_flatMap]) Bn.nil ((hMI.set (fun _ => rfl)).set (fun _ => rfl)) rfl ?_
      intro e3 M3 x3 B3 v2 a3 n3 er hP s1 s2 s3 s4 s5 s6 s7 s8
      have t0 : M3 x = some (.cells [.i .i64 0, .i .i64 0, .ns] false) := by rw [s2 x (by omega) (by omega), Sto.sne _ _ _ _ (by omega), Sto.sne _ _ _ _ (by omega), hMx]
      have t9 : ∀ j, j < x → j ≠ p → M3 j = m j := fun j h1 h2 => by rw [s2 j (by omega) h2, Sto.sne _ _ _ _ (by omega), Sto.sne _ _ _ _ (by omega), hMj j h1 h2]
      cases hr : rdL l d a1 (n + 1) with
      | bad e =>
        rw [hr] at hP hK
        obtain ⟨hP1, hP2⟩ := hP
        have her : ¬ er = 0 := by omega
        obtain ⟨s80, s81, s84, s85, s854, s855⟩ := s8
        simp only [RR.bind] at hK
        refine un_w ?_
        simp +contextual (disch := omega) [Nat.add_assoc, Int.add_assoc, if_pos, if_neg, -Int.not_lt, -Int.not_le, -Nat.not_lt, -Nat.not_le, -List.length_flatMap, ref03_reader_level.b1, s80, s81, s84, s85, s854, s855, s3, s4, t0, her]
        refine hK _ _ _ (.mk 4 0 [v2]) a3 n3 er ⟨hP1, hP2⟩ (by omega) (fun j h1 h2 => ?_) ?_ ?_ rfl ?_ ?_
        · rw [Sto.sne _ _ _ _ (by omega), t9 j h1 h2]
        · rw [Sto.sne _ _ _ _ (by omega), s3]
        · exact s6.set (fun _ => by simp [innO, innL, V.inn, s7])
        · simp [innL, V.inn, s7]
        · have z := (s5.up (m' := M3.set x (some (.cells [.i .i64 4, .i .i64 0, B3] false))) (x' := x3 + 12) (by omega) (fun j h1 h2 => Sto.sne _ _ _ _ (by omega))).at
          have z3 := (FzAt.fr (m := M3.set x (some (.cells [.i .i64 4, .i .i64 0, B3] false))) (lo := x2 + 1 + 1) (x := x3 + 12) (k := d + 1) (cs := [.i .i64 4, .i .i64 0]) (by simp)).app z
          rw [cL_at]
          simpa using z3.low (lo' := x) (by omega)
      | ok v a' n' =>
        rw [hr] at hP hK
        obtain ⟨rfl, rfl, rfl, rfl⟩ := hP
        simp only [RR.bind] at hK
        refine un_w ?_
        refine ref03_round l p x (x2 + 1) d 4 2 1 a' n' [v2] (B := B3) (by omega) (fun hp hm hN hK => ih (by omega) a' n' hp hm hN hK) s8 (by omega) (by omega) hp (by omega) (by omega) (by simp) s3 s4 s5 s6 s7 ?_
        clear s3 s4 s5 s6 s7 s8
        intro e4 M4 x4 B4 v4 a4 n4 er4 hP r1 r2 s3 s4 s5 s6 s7 s8
        obtain ⟨s80, s81, s84, s85, s854, s855⟩ := s8
        have t0' : M4 x = some (.cells [.i .i64 0, .i .i64 0, .ns] false) := by rw [r2 x (by omega) (by omega), t0]
        have t9' : ∀ j, j < x → j ≠ p → M4 j = m j := fun j h1 h2 => by rw [r2 j (by omega) h2, t9 j h1 h2]
        have hP' : Post ((rdL l d a' n').bind fun u a2 n2 => .ok (.mk 4 0 [v2, u]) a2 n2) (.mk 4 0 [v2, v4]) a4 n4 er4 := by
          cases hr : rdL l d a' n' with
          | bad e => rw [hr] at hP; exact hP
          | ok v a' n' => rw [hr] at hP; obtain ⟨rfl, h⟩ := hP; exact ⟨rfl, h⟩
        refine un_w ?_
        simp +contextual (disch := omega) [Nat.add_assoc, Int.add_assoc, if_pos, if_neg, -Int.not_lt, -Int.not_le, -Nat.not_lt, -Nat.not_le, -List.length_flatMap, ref03_reader_level.b1, s80, s81, s84, s85, s854, s855, s3, s4, t0']
        refine hK _ _ _ (.mk 4 0 [v2, v4]) a4 n4 er4 hP' (by omega) (fun j h1 h2 => ?_) ?_ ?_ rfl ?_ ?_
        · rw [Sto.sne _ _ _ _ (by omega), t9' j h1 h2]
        · rw [Sto.sne _ _ _ _ (by omega), s3]
        · exact s6.set (fun _ => by simp [innO, innL, V.inn, s7])
        · simp [innL, V.inn, s7]
        · have z := (s5.up (m' := M4.set x (some (.cells [.i .i64 4, .i .i64 0, B4] false))) (x' := x4 + 7) (by omega) (fun j h1 h2 => Sto.sne _ _ _ _ (by omega))).at
          have z3 := (FzAt.fr (m := M4.set x (some (.cells [.i .i64 4, .i .i64 0, B4] false))) (lo := x2 + 1 + 1) (x := x4 + 7) (k := d + 1) (cs := [.i .i64 4, .i .i64 0]) (by simp)).app z
          rw [cL_at]
          simpa using z3.low (lo' := x) (by omega)
    · rw [if_neg (by omega), if_pos (.inl rfl)] at hK
      simp +contextual (disch := omega) [Nat.add_assoc, Int.add_assoc, if_pos, if_neg, -Int.not_lt, -Int.not_le, -Nat.not_lt, -Nat.not_le, -List.length_flatMap, hM.symm, hMx, hMp]
      rw [CallX_op (by rfl)]
      refine openg_w rfl rfl (.inl rfl) ?_
      rw [hfn]
      refine ref03_reader_number.w l hl hn a1 (n + 1) (by omega) (by simp +contextual (disch := omega) [Nat.add_assoc, Int.add_assoc, if_pos, if_neg, -Int.not_lt, -Int.not_le, -Nat.not_lt, -Nat.not_le, -List.length_flatMap, hMp]) ?_ ?_
      · intro h0 x3 hx3
        rw [if_pos h0] at hK
        generalize (getS l a1).2.2 = g0 at hK h0 ⊢
        have h0' : ¬ (g0 : Int) = 0 := by omega
        simp +contextual (disch := omega) [Nat.add_assoc, Int.add_assoc, if_pos, if_neg, -Int.not_lt, -Int.not_le, -Nat.not_lt, -Nat.not_le, -List.length_flatMap, h0, h0', hMx]
        refine un_w ?_
        simp +contextual (disch := omega) [Nat.add_assoc, Int.add_assoc, if_pos, if_neg, -Int.not_lt, -Int.not_le, -Nat.not_lt, -Nat.not_le, -List.length_flatMap, ref03_reader_level.b1, h0, h0', hMx]
        refine hK _ _ _ (.mk 5 0 []) a1 (n + 1 : Nat) g0 ⟨rfl, h0⟩ (by omega) (fun j h1 h2 => ?_) ?_ ?_ rfl rfl (fun m2 _ dd _ => ⟨[], by simp⟩)
        · simp +contextual (disch := omega) [Nat.add_assoc, Int.add_assoc, if_pos, if_neg, -Int.not_lt, -Int.not_le, -Nat.not_lt, -Nat.not_le, -List.length_flatMap, hMj j h1 h2]
        · simp +contextual (disch := omega) [Nat.add_assoc, Int.add_assoc, if_pos, if_neg, -Int.not_lt, -Int.not_le, -Nat.not_lt, -Nat.not_le, -List.length_flatMap]
        · repeat (first | exact hMI | refine InnM.set ?_ (fun _ => rfl))
      intro h0 x3 hx3
      rw [if_neg (by omega)] at hK
      generalize getS l a1 = r at hK h0 ⊢
      obtain ⟨u, a2, e2⟩ := r
      simp only at hK h0 ⊢
      have hnn : (if (5 : Nat) = 5 then 5 else 10) = 5 := rfl
      first | rw [hnn] at hK | simp only [if_true] at hK
      by_cases hu : 5 ≤ u
      · rw [if_pos hu] at hK
        have hu' : (5 : Int) ≤ u := by omega
        simp +contextual (disch := omega) [Nat.add_assoc, Int.add_assoc, if_pos, if_neg, -Int.not_lt, -Int.not_le, -Nat.not_lt, -Nat.not_le, -List.length_flatMap, hu', hMx]
        refine un_w ?_
        simp +contextual (disch := omega) [Nat.add_assoc, Int.add_assoc, if_pos, if_neg, -Int.not_lt, -Int.not_le, -Nat.not_lt, -Nat.not_le, -List.length_flatMap, ref03_reader_level.b1, hMx]
        refine hK _ _ _ (.mk 5 u []) a2 (n + 1 : Nat) 20 ⟨rfl, by omega⟩ (by omega) (fun j h1 h2 => ?_) ?_ ?_ rfl rfl (fun m2 _ dd _ => ⟨[], by simp⟩)
        · simp +contextual (disch := omega) [Nat.add_assoc, Int.add_assoc, if_pos, if_neg, -Int.not_lt, -Int.not_le, -Nat.not_lt, -Nat.not_le, -List.length_flatMap, hMj j h1 h2]
        · simp +contextual (disch := omega) [Nat.add_assoc, Int.add_assoc, if_pos, if_neg, -Int.not_lt, -Int.not_le, -Nat.not_lt, -Nat.not_le, -List.length_flatMap]
        · repeat (first | exact hMI | refine InnM.set ?_ (fun _ => rfl))
      · rw [if_neg hu] at hK
        have hu' : ¬ (5 : Int) ≤ u := by omega
        simp +contextual (disch := omega) [Nat.add_assoc, Int.add_assoc, if_pos, if_neg, -Int.not_lt, -Int.not_le, -Nat.not_lt, -Nat.not_le, -List.length_flatMap, hu', hMx]
        refine un_w ?_
        simp +contextual (disch := omega) [Nat.add_assoc, Int.add_assoc, if_pos, if_neg, -Int.not_lt, -Int.not_le, -Nat.not_lt, -Nat.not_le, -List.length_flatMap, ref03_reader_level.b1, hMx]
        refine hK _ _ _ (.mk 5 u []) a2 (n + 1 : Nat) 0 ⟨rfl, rfl, rfl, rfl⟩ (by omega) (fun j h1 h2 => ?_) ?_ ?_ rfl rfl (fun m2 _ dd _ => ⟨[], by simp⟩)
        · simp +contextual (disch := omega) [Nat.add_assoc, Int.add_assoc, if_pos, if_neg, -Int.not_lt, -Int.not_le, -Nat.not_lt, -Nat.not_le, -List.length_flatMap, hMj j h1 h2]
        · simp +contextual (disch := omega) [Nat.add_assoc, Int.add_assoc, if_pos, if_neg, -Int.not_lt, -Int.not_le, -Nat.not_lt, -Nat.not_le, -List.length_flatMap]
        · repeat (first | exact hMI | refine InnM.set ?_ (fun _ => rfl))
    · rw [if_neg (by omega), if_pos (.inr rfl)] at hK
      simp +contextual (disch := omega) [Nat.add_assoc, Int.add_assoc, if_pos, if_neg, -Int.not_lt, -Int.not_le, -Nat.not_lt, -Nat.not_le, -List.length_flatMap, hM.symm, hMx, hMp]
      rw [CallX_op (by rfl)]
      refine openg_w rfl rfl (.inl rfl) ?_
      rw [hfn]
      refine ref03_reader_number.w l hl hn a1 (n + 1) (by omega) (by simp +contextual (disch := omega) [Nat.add_assoc, Int.add_assoc, if_pos, if_neg, -Int.not_lt, -Int.not_le, -Nat.not_lt, -Nat.not_le, -List.length_flatMap, hMp]) ?_ ?_
      · intro h0 x3 hx3
        rw [if_pos h0] at hK
        generalize (getS l a1).2.2 = g0 at hK h0 ⊢
        have h0' : ¬ (g0 : Int) = 0 := by omega
        simp +contextual (disch := omega) [Nat.add_assoc, Int.add_assoc, if_pos, if_neg, -Int.not_lt, -Int.not_le, -Nat.not_lt, -Nat.not_le, -List.length_flatMap, h0, h0', hMx]
        refine un_w ?_
        simp +contextual (disch := omega) [Nat.add_assoc, Int.add_assoc, if_pos, if_neg, -Int.not_lt, -Int.not_le, -Nat.not_lt, -Nat.not_le, -List.length_flatMap, ref03_reader_level.b1, h0, h0', hMx]
        refine hK _ _ _ (.mk 6 0 []) a1 (n + 1 : Nat) g0 ⟨rfl, h0⟩ (by omega) (fun j h1 h2 => ?_) ?_ ?_ rfl rfl (fun m2 _ dd _ => ⟨[], by simp⟩)
        · simp +contextual (disch := omega) [Nat.add_assoc, Int.add_assoc, if_pos, if_neg, -Int.not_lt, -Int.not_le, -Nat.not_lt, -Nat.not_le, -List.length_flatMap, hMj j h1 h2]
        · simp +contextual (disch := omega) [Nat.add_assoc, Int.add_assoc, if_pos, if_neg, -Int.not_lt, -Int.not_le, -Nat.not_lt, -Nat.not_le, -List.length_flatMap]
        · repeat (first | exact hMI | refine InnM.set ?_ (fun _ => rfl))
      intro h0 x3 hx3
      rw [if_neg (by omega)] at hK
      generalize getS l a1 = r at hK h0 ⊢
      obtain ⟨u, a2, e2⟩ := r
      simp only at hK h0 ⊢
      have hnn : (if (6 : Nat) = 5 then 5 else 10) = 10 := rfl
      first | rw [hnn] at hK | simp only [if_true] at hK
      by_cases hu : 10 ≤ u
      · rw [if_pos hu] at hK
        have hu' : (10 : Int) ≤ u := by omega
        simp +contextual (disch := omega) [Nat.add_assoc, Int.add_assoc, if_pos, if_neg, -Int.not_lt, -Int.not_le, -Nat.not_lt, -Nat.not_le, -List.length_flatMap, hu', hMx]
        refine un_w ?_
        simp +contextual (disch := omega) [Nat.add_assoc, Int.add_assoc, if_pos, if_neg, -Int.not_lt, -Int.not_le, -Nat.not_lt, -Nat.not_le, -List.length_flatMap, ref03_reader_level.b1, hMx]
        refine hK _ _ _ (.mk 6 u []) a2 (n + 1 : Nat) 20 ⟨rfl, by omega⟩ (by omega) (fun j h1 h2 => ?_) ?_ ?_ rfl rfl (fun m2 _ dd _ => ⟨[], by simp⟩)
        · simp +contextual (disch := omega) [Nat.add_assoc, Int.add_assoc, if_pos, if_neg, -Int.not_lt, -Int.not_le, -Nat.not_lt, -Nat.not_le, -List.length_flatMap, hMj j h1 h2]
        · simp +contextual (disch := omega) [Nat.add_assoc, Int.add_assoc, if_pos, if_neg, -Int.not_lt, -Int.not_le, -Nat.not_lt, -Nat.not_le, -List.length_flatMap]
        · repeat (first | exact hMI | refine InnM.set ?_ (fun _ => rfl))
      · rw [if_neg hu] at hK
        have hu' : ¬ (10 : Int) ≤ u := by omega
        simp +contextual (disch := omega) [Nat.add_assoc, Int.add_assoc, if_pos, if_neg, -Int.not_lt, -Int.not_le, -Nat.not_lt, -Nat.not_le, -List.length_flatMap, hu', hMx]
        refine un_w ?_
        simp +contextual (disch := omega) [Nat.add_assoc, Int.add_assoc, if_pos, if_neg, -Int.not_lt, -Int.not_le, -Nat.not_lt, -Nat.not_le, -List.length_flatMap, ref03_reader_level.b1, hMx]
        refine hK _ _ _ (.mk 6 u []) a2 (n + 1 : Nat) 0 ⟨rfl, rfl, rfl, rfl⟩ (by omega) (fun j h1 h2 => ?_) ?_ ?_ rfl rfl (fun m2 _ dd _ => ⟨[], by simp⟩)
        · simp +contextual (disch := omega) [Nat.add_assoc, Int.add_assoc, if_pos, if_neg, -Int.not_lt, -Int.not_le, -Nat.not_lt, -Nat.not_le, -List.length_flatMap, hMj j h1 h2]
        · simp +contextual (disch := omega) [Nat.add_assoc, Int.add_assoc, if_pos, if_neg, -Int.not_lt, -Int.not_le, -Nat.not_lt, -Nat.not_le, -List.length_flatMap]
        · repeat (first | exact hMI | refine InnM.set ?_ (fun _ => rfl))
    · rw [if_neg k1, if_neg (by omega), if_neg k2, if_neg (by omega)] at hK
      simp +contextual (disch := omega) [Nat.add_assoc, Int.add_assoc, if_pos, if_neg, -Int.not_lt, -Int.not_le, -Nat.not_lt, -Nat.not_le, -List.length_flatMap, hM.symm, hMx, hMp, k1, k2, k3, k4, k5, k6]
      refine un_w ?_
      simp +contextual (disch := omega) [Nat.add_assoc, Int.add_assoc, if_pos, if_neg, -Int.not_lt, -Int.not_le, -Nat.not_lt, -Nat.not_le, -List.length_flatMap, ref03_reader_level.b1, hMx]
      refine hK _ _ _ (.mk k 0 []) a1 (n + 1 : Nat) 20 ⟨rfl, by omega⟩ (by omega) (fun j h1 h2 => ?_) ?_ ?_ rfl rfl (fun m2 _ dd _ => ⟨[], by simp⟩)
      · simp +contextual (disch := omega) [Nat.add_assoc, Int.add_assoc, if_pos, if_neg, -Int.not_lt, -Int.not_le, -Nat.not_lt, -Nat.not_le, -List.length_flatMap, hMj j h1 h2]
      · simp +contextual (disch := omega) [Nat.add_assoc, Int.add_assoc, if_pos, if_neg, -Int.not_lt, -Int.not_le, -Nat.not_lt, -Nat.not_le, -List.length_flatMap]
      · repeat (first | exact hMI | refine InnM.set ?_ (fun _ => rfl))
end Pi


set_option linter.unusedSimpArgs false
set_option linter.unusedVariables false
namespace Pi
/-! What Get tells of what Put writes, and back. -/
end Pi


set_option linter.unusedSimpArgs false
set_option linter.unusedVariables false
namespace Pi
/-- Two lists, pair by pair. -/
def zipAll {α β : Type} (p : α → β → Bool) : List α → List β → Bool
  | [], [] => true
  | a :: r, b :: s => p a b && zipAll p r s
  | _, _ => false
theorem zipAll_len {α β : Type} {p : α → β → Bool} : ∀ {l : List α} {m : List β}, l.length ≠ m.length → zipAll p l m = false
  | [], [], h => absurd rfl h
  | [], _ :: _, _ => rfl
  | _ :: _, [], _ => rfl
  | a :: r, b :: s, h => by
    simp only [zipAll]
    rw [zipAll_len (by simpa using h)]
    simp
theorem zipAll_false {α β : Type} {p : α → β → Bool} : ∀ {l : List α} {m : List β} {i : Nat} (h1 : i < l.length) (h2 : i < m.length), p l[i] m[i] = false → zipAll p l m = false
  | a :: r, b :: s, 0, h1, h2, h => by simp at h; simp [zipAll, h]
  | a :: r, b :: s, i + 1, h1, h2, h => by
    simp only [zipAll]
    rw [zipAll_false (i := i) (by simpa using h1) (by simpa using h2) (by simpa using h)]
    simp
theorem zipAll_true {α β : Type} {p : α → β → Bool} : ∀ {l : List α} {m : List β}, l.length = m.length → (∀ (i : Nat) (h1 : i < l.length) (h2 : i < m.length), p l[i] m[i] = true) → zipAll p l m = true
  | [], [], _, _ => rfl
  | a :: r, b :: s, h, k => by
    simp only [zipAll, Bool.and_eq_true]
    exact ⟨k 0 (by simp) (by simp), zipAll_true (by simpa using h) (fun i h1 h2 => k (i + 1) (by simpa using h1) (by simpa using h2))⟩
  | [], _ :: _, h, _ => by simp at h
  | _ :: _, [], h, _ => by simp at h
mutual
def sameS (a b : L) : Bool := match a, b with
  | .mk k n ks, .mk k' n' ks' => decide (k = k') && decide (n = n') && sameL ks ks'
def sameL (a b : List L) : Bool := match a, b with
  | [], [] => true
  | x :: r, y :: s => sameS x y && sameL r s
  | [], _ :: _ => false
  | _ :: _, [] => false
end
theorem sameL_eq (a b : List L) : sameL a b = zipAll sameS a b := by
  induction a generalizing b with
  | nil => cases b <;> simp [sameL, zipAll]
  | cons x r ih => cases b <;> simp [sameL, zipAll, ih]
theorem sameS_eq (a b : L) : sameS a b = (decide (a.kind = b.kind) && decide (a.n = b.n) && zipAll sameS a.kids b.kids) := by
  cases a; cases b
  simp only [sameS, sameL_eq]
  rfl
theorem zipAll_eq {α : Type} {p : α → α → Bool} : ∀ {l m : List α}, (∀ a ∈ l, ∀ b, p a b = true → a = b) → zipAll p l m = true → l = m
  | [], [], _, _ => rfl
  | a :: r, b :: s, h, k => by
    simp only [zipAll, Bool.and_eq_true] at k
    rw [h a (by simp) b k.1, zipAll_eq (fun x hx => h x (by simp [hx])) k.2]
  | [], _ :: _, _, k => by simp [zipAll] at k
  | _ :: _, [], _, k => by simp [zipAll] at k
theorem sameS_iff (a : L) : ∀ b, sameS a b = true ↔ a = b := by
  induction a using L.ind with
  | h a ih =>
    intro b
    rw [sameS_eq]
    simp only [Bool.and_eq_true, decide_eq_true_eq]
    constructor
    · rintro ⟨⟨h1, h2⟩, h3⟩
      have := zipAll_eq (fun x hx y => (ih x hx y).1) h3
      cases a; cases b
      simp at h1 h2 this
      subst h1 h2 this
      rfl
    · rintro rfl
      exact ⟨⟨rfl, rfl⟩, zipAll_true rfl fun i h1 h2 => (ih _ (List.getElem_mem h1) _).2 rfl⟩
@[simp] theorem sameS_refl (a : L) : sameS a a = true := (sameS_iff a a).2 rfl

theorem ref02_Same.a (a : L) : a.Ok → ∀ b : L, b.Ok → Ans ctx ref02_Same.n [.ag (cL a), .ag (cL b)] (.b (sameS a b)) := by
  induction a using L.ind with
  | h a ih =>
  intro oka b okb
  refine ans ref02_Same.f ?_
  rw [sameS_eq]
  have hla := oka.len
  by_cases h1 : a.kind = b.kind ∧ a.n = b.n ∧ a.kids.length = b.kids.length
  · obtain ⟨h1, h2, h3⟩ := h1
    simp +contextual (disch := omega) [Nat.add_assoc, Int.add_assoc, if_pos, if_neg, -Int.not_lt, -Int.not_le, -Nat.not_lt, -Nat.not_le, -List.length_flatMap, ref02_Same.c, h1, h2, h3]
    refine for_w (fun i e m x => e 2 = .p 0 0 ∧ e 3 = .p 1 0 ∧ m 0 = some (.cells (cL a) false) ∧ m 1 = some (.cells (cL b) false) ∧ e 5 = .i .i64 i ∧ ∀ (j : Nat) (h1 : j < a.kids.length) (h2 : j < b.kids.length), j < i → sameS a.kids[j] b.kids[j] = true) a.kids.length ?_ ?_ ?_
    · simp +contextual (disch := omega) [Nat.add_assoc, Int.add_assoc, if_pos, if_neg, -Int.not_lt, -Int.not_le, -Nat.not_lt, -Nat.not_le, -List.length_flatMap]
    · rintro i e m x hi ⟨g1, g2, g3, g4, g5, g6⟩
      have hi' : i < b.kids.length := by omega
      have hk := ih a.kids[i] (List.getElem_mem hi) (oka.at hi) b.kids[i] (okb.at hi')
      cases hp : sameS a.kids[i] b.kids[i] with
      | true =>
        rw [hp] at hk
        simp +contextual (disch := omega) [Nat.add_assoc, Int.add_assoc, if_pos, if_neg, -Int.not_lt, -Int.not_le, -Nat.not_lt, -Nat.not_le, -List.length_flatMap, ref02_Same.b1, g1, g2, g3, g4, g5, hi, hi', ansK hk]
        intro j h1 h2 h3
        by_cases hj : j = i
        · subst hj; exact hp
        · exact g6 j h1 h2 (by omega)
      | false =>
        rw [hp] at hk
        simp +contextual (disch := omega) [Nat.add_assoc, Int.add_assoc, if_pos, if_neg, -Int.not_lt, -Int.not_le, -Nat.not_lt, -Nat.not_le, -List.length_flatMap, ref02_Same.b1, g1, g2, g3, g4, g5, hi, hi', ansK hk, zipAll_false hi hi' hp]
    · rintro e m x ⟨g1, g2, g3, g4, g5, g6⟩
      have := zipAll_true (p := sameS) h3 (fun j h1 h2 => g6 j h1 h2 h1)
      simp +contextual (disch := omega) [Nat.add_assoc, Int.add_assoc, if_pos, if_neg, -Int.not_lt, -Int.not_le, -Nat.not_lt, -Nat.not_le, -List.length_flatMap, ref02_Same.b1, g1, g2, g3, g4, g5, this]
  · have hf : (decide (a.kind = b.kind) && decide (a.n = b.n) && zipAll sameS a.kids b.kids) = false := by
      by_cases q1 : a.kind = b.kind
      · by_cases q2 : a.n = b.n
        · rw [zipAll_len (fun q3 => h1 ⟨q1, q2, q3⟩)]; simp
        · simp [q2]
      · simp [q1]
    rw [hf]
    simp +contextual (disch := omega) [Nat.add_assoc, Int.add_assoc, if_pos, if_neg, -Int.not_lt, -Int.not_le, -Nat.not_lt, -Nat.not_le, -List.length_flatMap, ref02_Same.c]
end Pi


set_option linter.unusedSimpArgs false
set_option linter.unusedVariables false
namespace Pi
theorem ref03_Get.a (l : List Nat) (p : Int) (hl : Byt l) (hn : l.length ≤ 10000) : Ans ctx ref03_Get.n [.s (bs l), .i .i64 p] (getLV l p) := by
  refine ans ref03_Get.f ?_
  have hz : V.ag [.i .i64 0, .i .i64 0, .sl [] 0] = .ag (cL (.mk 0 0 [])) := by rw [cL_at]; rfl
  unfold getLV
  by_cases hp1 : p < 0
  · rw [if_pos (.inl hp1)]
    simp +contextual (disch := omega) [Nat.add_assoc, Int.add_assoc, if_pos, if_neg, -Int.not_lt, -Int.not_le, -Nat.not_lt, -Nat.not_le, -List.length_flatMap, ref03_Get.c, hp1, rrV, hz]
  · by_cases hp2 : p > l.length
    · rw [if_pos (.inr hp2)]
      simp +contextual (disch := omega) [Nat.add_assoc, Int.add_assoc, if_pos, if_neg, -Int.not_lt, -Int.not_le, -Nat.not_lt, -Nat.not_le, -List.length_flatMap, ref03_Get.c, hp1, hp2, rrV, hz]
    · rw [if_neg (by omega)]
      obtain ⟨a, rfl⟩ : ∃ a : Nat, p = a := ⟨p.toNat, by omega⟩
      have hp2' : ¬ (a : Int) > l.length := hp2
      have hfl : ctx.frz ref03_reader_level.n = false := rfl
      simp +contextual (disch := omega) [Nat.add_assoc, Int.add_assoc, if_pos, if_neg, -Int.not_lt, -Int.not_le, -Nat.not_lt, -Nat.not_le, -List.length_flatMap, ref03_Get.c, hp1, hp2', Int.toNat_natCast]
      rw [CallX_op (by rfl)]
      refine openg_w rfl rfl (.inl rfl) ?_
      rw [hfl]
      refine ref03_reader_level.w l hl hn 14 12 (by omega) a 0 (by omega) (by simp +contextual (disch := omega) [Nat.add_assoc, Int.add_assoc, if_pos, if_neg, -Int.not_lt, -Int.not_le, -Nat.not_lt, -Nat.not_le, -List.length_flatMap]) (fun j hj => by simp +contextual (disch := omega) [Nat.add_assoc, Int.add_assoc, if_pos, if_neg, -Int.not_lt, -Int.not_le, -Nat.not_lt, -Nat.not_le, -List.length_flatMap]) ?_
      intro cs m' x' v a' n' e hP h1 h2 h3 _ h5 _ h7
      have t0 : m' 0 = some (.cells [.i .i64 0, .i .i64 0, .ns] false) := by rw [h2 0 (by omega) (by omega)]; simp +contextual (disch := omega) [Nat.add_assoc, Int.add_assoc, if_pos, if_neg, -Int.not_lt, -Int.not_le, -Nat.not_lt, -Nat.not_le, -List.length_flatMap]
      have ht : cs.take 3 = cs := List.take_of_length_le (by omega)
      generalize rdL l 12 a 0 = r at hP ⊢
      cases r with
      | bad e' =>
        obtain ⟨rfl, he⟩ := hP
        have he' : ¬ (e' : Int) = 0 := by omega
        simp +contextual (disch := omega) [Nat.add_assoc, Int.add_assoc, if_pos, if_neg, -Int.not_lt, -Int.not_le, -Nat.not_lt, -Nat.not_le, -List.length_flatMap, t0, h3, h5, ht, he, he', rrV, hz]
      | ok v' a2 n2 =>
        obtain ⟨rfl, rfl, rfl, rfl⟩ := hP
        simp +contextual (disch := omega) [Nat.add_assoc, Int.add_assoc, if_pos, if_neg, -Int.not_lt, -Int.not_le, -Nat.not_lt, -Nat.not_le, -List.length_flatMap, t0, h3, h5, ht, rrV]
        generalize hM : Sto.set _ 0 _ = M
        obtain ⟨ids, e⟩ := h7 M (fun j q1 q2 => by rw [← hM]; simp +contextual (disch := omega) [Nat.add_assoc, Int.add_assoc, if_pos, if_neg, -Int.not_lt, -Int.not_le, -Nat.not_lt, -Nat.not_le, -List.length_flatMap]) 40 (by omega)
        simp +contextual (disch := omega) [Nat.add_assoc, Int.add_assoc, if_pos, if_neg, -Int.not_lt, -Int.not_le, -Nat.not_lt, -Nat.not_le, -List.length_flatMap, e]
theorem RR.bind_ok {r : RR} {f : L → Nat → Nat → RR} {v : L} {a n : Nat} (h : r.bind f = .ok v a n) : ∃ v' a' n', r = .ok v' a' n' ∧ f v' a' n' = .ok v a n := by
  cases r with
  | bad e => cases h
  | ok v' a' n' => exact ⟨v', a', n', rfl, h⟩
theorem rd_ok (l : List Nat) : ∀ (d a n : Nat) (v : L) (a' n' : Nat), rdL l d a n = .ok v a' n' → v.Ok
  | 0, _, _, _, _, _, h => by simp [rdL] at h
  | d + 1, a, n, v, a', n', h => by
    have nil : ∀ k u : Nat, k ≤ 10 → u ≤ 10 → (L.mk k u []).Ok := fun k u h1 h2 => .mk (by simp) (by omega) (by omega) (fun x hx => by cases hx)
    unfold rdL at h
    split at h
    · cases h
    split at h
    · cases h
    split at h
    · cases h
      exact nil 1 0 (by omega) (by omega)
    split at h
    · rename_i hk
      split at h
      · cases h
      generalize hg : (if (getS l a).1 = 5 then 5 else 10 : Nat) = g at h
      have hg10 : g ≤ 10 := by rw [← hg]; split <;> omega
      split at h
      · cases h
      rename_i hu
      cases h
      exact nil _ _ (by omega) (by omega)
    split at h
    · obtain ⟨v1, a1, n1, h1, h2⟩ := RR.bind_ok h
      cases h2
      have := rd_ok l d _ _ _ _ _ h1
      exact .mk (by simp) (by omega) (by omega) (fun x hx => by rw [List.mem_singleton.1 hx]; exact this)
    split at h
    · rename_i hk
      obtain ⟨v1, a1, n1, h1, h2⟩ := RR.bind_ok h
      obtain ⟨v2, a2, n2, h3, h4⟩ := RR.bind_ok h2
      cases h4
      have k1 := rd_ok l d _ _ _ _ _ h1
      have k2 := rd_ok l d _ _ _ _ _ h3
      refine .mk (by simp) (by omega) (by omega) (fun x hx => ?_)
      rcases List.mem_cons.1 hx with rfl | hx
      · exact k1
      · rw [List.mem_singleton.1 hx]; exact k2
    · cases h
end Pi


set_option linter.unusedSimpArgs false
set_option linter.unusedVariables false
namespace Pi
end Pi


set_option linter.unusedSimpArgs false
set_option linter.unusedVariables false
namespace Pi
end Pi


set_option linter.unusedSimpArgs false
set_option linter.unusedVariables false
namespace Pi
end Pi


set_option linter.unusedSimpArgs false
set_option linter.unusedVariables false
namespace Pi
/-! Made levels are right; what is more. -/
end Pi


set_option linter.unusedSimpArgs false
set_option linter.unusedVariables false
namespace Pi
end Pi


set_option linter.unusedSimpArgs false
set_option linter.unusedVariables false
namespace Pi
end Pi


set_option linter.unusedSimpArgs false
set_option linter.unusedVariables false
namespace Pi
theorem RR.bind_bad {r : RR} {f : L → Nat → Nat → RR} {e : Nat} (h : r.bind f = .bad e) : r = .bad e ∨ ∃ v a n, r = .ok v a n ∧ f v a n = .bad e := by
  cases r with
  | bad e' => exact .inl h
  | ok v' a' n' => exact .inr ⟨v', a', n', rfl, h⟩
theorem rd_bad (s : List Nat) : ∀ (d a n e : Nat), rdL s d a n = .bad e → e ≠ 0
  | 0, a, n, e, h => by simp [rdL] at h; omega
  | d + 1, a, n, e, h => by
    unfold rdL at h
    split at h
    · cases h; omega
    split at h
    · rename_i h1; cases h; exact h1
    split at h
    · cases h
    split at h
    · split at h
      · rename_i h1; cases h; exact h1
      generalize (if (getS s a).1 = 5 then 5 else 10) = q at h
      split at h
      · cases h; omega
      · cases h
    split at h
    · rcases RR.bind_bad h with h | ⟨v, a2, n2, h1, h2⟩
      · exact rd_bad s d _ _ e h
      · cases h2
    split at h
    · rcases RR.bind_bad h with h | ⟨v, a2, n2, h1, h2⟩
      · exact rd_bad s d _ _ e h
      · rcases RR.bind_bad h2 with h | ⟨v, a2, n2, h1, h2⟩
        · exact rd_bad s d _ _ e h
        · cases h2
    · cases h; omega
end Pi


set_option linter.unusedSimpArgs false
set_option linter.unusedVariables false
namespace Pi
inductive Tm where
  | mk (kind n : Int) (lvls : List L) (kids : List Tm)
def Tm.kind : Tm → Int | .mk k _ _ _ => k
def Tm.n : Tm → Int | .mk _ n _ _ => n
def Tm.lvls : Tm → List L | .mk _ _ ls _ => ls
def Tm.kids : Tm → List Tm | .mk _ _ _ ks => ks
@[simp] theorem Tm.kind_mk (k n : Int) (ls : List L) (ks : List Tm) : (Tm.mk k n ls ks).kind = k := rfl
@[simp] theorem Tm.n_mk (k n : Int) (ls : List L) (ks : List Tm) : (Tm.mk k n ls ks).n = n := rfl
@[simp] theorem Tm.lvls_mk (k n : Int) (ls : List L) (ks : List Tm) : (Tm.mk k n ls ks).lvls = ls := rfl
@[simp] theorem Tm.kids_mk (k n : Int) (ls : List L) (ks : List Tm) : (Tm.mk k n ls ks).kids = ks := rfl
theorem Tm.size_kid {l k : Tm} (h : k ∈ l.kids) : sizeOf k < sizeOf l := by
  cases l with
  | mk a n ls ks =>
    simp only [Tm.kids] at h
    have := List.sizeOf_lt_of_mem h
    simp only [Tm.mk.sizeOf_spec]
    omega
theorem Tm.ind {P : Tm → Prop} (h : ∀ l : Tm, (∀ k ∈ l.kids, P k) → P l) (l : Tm) : P l := by
  have : ∀ n, ∀ l : Tm, sizeOf l < n → P l := by
    intro n
    induction n with
    | zero => intro l hl; omega
    | succ n ih => intro l hl; exact h l fun k hk => ih k (by have := Tm.size_kid hk; omega)
  exact this (sizeOf l + 1) l (by omega)
mutual
def cT : Tm → List V
  | .mk k n ls ks => [.i .i64 k, .i .i64 n, sV cL ls, .sl (cTs ks) ks.length]
def cTs : List Tm → List V
  | [] => []
  | a :: r => cT a ++ cTs r
end
theorem cTs_eq : ∀ l : List Tm, cTs l = l.flatMap cT
  | [] => by simp [cTs]
  | a :: r => by simp [cTs, cTs_eq r]
theorem cT_at (l : Tm) : cT l = [.i .i64 l.kind, .i .i64 l.n, sV cL l.lvls, sV cT l.kids] := by
  cases l with
  | mk k n ls ks => simp [cT, sV, cTs_eq, Tm.kids]
theorem cT_len (l : Tm) : (cT l).length = 4 := by rw [cT_at]; rfl
theorem cT_fz (l : Tm) (D : Nat → Option (Bool × List V × List V × List Nat)) : frzL D (cT l) = some (cT l, []) := by rw [cT_at]; simp
attribute [simp] cT_len cT_fz
instance : Cel cT 4 := ⟨cT_len, by decide, cT_fz⟩
@[simp] theorem cT_0 (l : Tm) : (cT l)[0]? = some (.i .i64 l.kind) := by rw [cT_at]; rfl
@[simp] theorem cT_1 (l : Tm) : (cT l)[1]? = some (.i .i64 l.n) := by rw [cT_at]; rfl
@[simp] theorem cT_2 (l : Tm) : (cT l)[2]? = some (sV cL l.lvls) := by rw [cT_at]; rfl
@[simp] theorem cT_3 (l : Tm) : (cT l)[3]? = some (sV cT l.kids) := by rw [cT_at]; rfl
@[simp] theorem cT_take (l : Tm) : (cT l).take 4 = cT l := List.take_of_length_le (by simp)
/-- A term whose lists are no longer than memory lets them be, its numbers as they come. -/
inductive Tm.Ok : Tm → Prop
  | mk {k n : Int} {ls : List L} {ks : List Tm} : ls.length ≤ 9223372036854775807 → ks.length ≤ 9223372036854775807 → (-9223372036854775808 ≤ k ∧ k < 9223372036854775808) → (-9223372036854775808 ≤ n ∧ n < 9223372036854775808) → (∀ x ∈ ls, L.Ok x) → (∀ x ∈ ks, Tm.Ok x) → Tm.Ok (.mk k n ls ks)
theorem Tm.Ok.llen {l : Tm} (h : l.Ok) : l.lvls.length ≤ 9223372036854775807 := by cases h; assumption
theorem Tm.Ok.len {l : Tm} (h : l.Ok) : l.kids.length ≤ 9223372036854775807 := by cases h; assumption
theorem Tm.Ok.lvl {l : Tm} (h : l.Ok) {k : L} (hk : k ∈ l.lvls) : k.Ok := by cases h with | mk _ _ _ _ h _ => exact h k hk
theorem Tm.Ok.kid {l : Tm} (h : l.Ok) {k : Tm} (hk : k ∈ l.kids) : k.Ok := by cases h with | mk _ _ _ _ _ h => exact h k hk
theorem Tm.Ok.lat {l : Tm} (h : l.Ok) {i : Nat} (hi : i < l.lvls.length) : l.lvls[i].Ok := h.lvl (List.getElem_mem hi)
theorem Tm.Ok.at {l : Tm} (h : l.Ok) {i : Nat} (hi : i < l.kids.length) : l.kids[i].Ok := h.kid (List.getElem_mem hi)
end Pi

