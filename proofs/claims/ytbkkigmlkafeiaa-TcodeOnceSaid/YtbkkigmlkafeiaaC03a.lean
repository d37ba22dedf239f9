/- Contracts: levels as bytes (layer 3): the reader. -/
import Derived.Test.YtbkkigmlkafeiaaC02a
set_option linter.unusedSimpArgs false
set_option linter.unusedVariables false
namespace Pi
/-- What a reading comes to. -/
inductive RR where
  | ok (v : L) (at' many : Nat)
  | bad (e : Nat)
def RR.bind (r : RR) (f : L → Nat → Nat → RR) : RR := match r with
  | .ok v a n => f v a n
  | .bad e => .bad e
/-- A level that stands at a place. -/
def rdL (l : List Nat) : Nat → Nat → Nat → RR
  | 0, _, _ => .bad 2
  | d + 1, a, n => if 100 ≤ n then .bad 2 else if (getS l a).2.2 ≠ 0 then .bad (getS l a).2.2 else
    if (getS l a).1 = 1 then .ok (.mk 1 0 []) (getS l a).2.1 (n + 1)
    else if (getS l a).1 = 5 ∨ (getS l a).1 = 6 then
      (if (getS l (getS l a).2.1).2.2 ≠ 0 then .bad (getS l (getS l a).2.1).2.2
       else if (if (getS l a).1 = 5 then 5 else 10) ≤ (getS l (getS l a).2.1).1 then .bad 20
       else .ok (.mk (getS l a).1 (getS l (getS l a).2.1).1 []) (getS l (getS l a).2.1).2.1 (n + 1))
    else if (getS l a).1 = 2 then (rdL l d (getS l a).2.1 (n + 1)).bind fun v a' n' => .ok (.mk 2 0 [v]) a' n'
    else if (getS l a).1 = 3 ∨ (getS l a).1 = 4 then (rdL l d (getS l a).2.1 (n + 1)).bind fun v a' n' => (rdL l d a' n').bind fun u a2 n2 => .ok (.mk (getS l a).1 0 [v, u]) a2 n2
    else .bad 20
/-- What ends a reading. -/
def stopV (e : Int) : V := .fc 230 (.ag [.i .i64 e])
theorem lcode_want.w {m : Sto} {x : Nat} {K : CR → Sto → Nat → Prop} (c : Bool) (e : Int) (hK : ∀ x', x ≤ x' → K (if c = true then .ret (.tu []) else .pan (stopV e)) m x') :
    w ctx (envOf [.b c, .i .i64 e]) m x [] none none (RetG ctx lcode_want.c.rs K) lcode_want.c.code := by
  cases c with
  | true =>
    simp +contextual (disch := omega) [Nat.add_assoc, Int.add_assoc, if_pos, if_neg, -Int.not_lt, -Int.not_le, -Nat.not_lt, -Nat.not_le, -List.length_flatMap, lcode_want.c]
    exact hK _ (by omega)
  | false =>
    simp +contextual (disch := omega) [Nat.add_assoc, Int.add_assoc, if_pos, if_neg, -Int.not_lt, -Int.not_le, -Nat.not_lt, -Nat.not_le, -List.length_flatMap, lcode_want.c]
    exact hK _ (by omega)
def namedR (k : Int) : Int := if k = 5 then 5 else if k = 6 then 10 else 0
theorem lcode_named.a (k : Int) : Ans ctx lcode_named.n [.i .i64 k] (.i .i64 (namedR k)) := by
  refine ans lcode_named.f ?_
  unfold namedR
  by_cases h5 : k = 5
  · simp +contextual (disch := omega) [Nat.add_assoc, Int.add_assoc, if_pos, if_neg, -Int.not_lt, -Int.not_le, -Nat.not_lt, -Nat.not_le, -List.length_flatMap, lcode_named.c, h5]
  · by_cases h6 : k = 6
    · simp +contextual (disch := omega) [Nat.add_assoc, Int.add_assoc, if_pos, if_neg, -Int.not_lt, -Int.not_le, -Nat.not_lt, -Nat.not_le, -List.length_flatMap, lcode_named.c, h5, h6]
    · simp +contextual (disch := omega) [Nat.add_assoc, Int.add_assoc, if_pos, if_neg, -Int.not_lt, -Int.not_le, -Nat.not_lt, -Nat.not_le, -List.length_flatMap, lcode_named.c, h5, h6]
theorem lcode_reader_number.w {m : Sto} {x p : Nat} {K : CR → Sto → Nat → Prop} (l : List Nat) (hl : Byt l) (hn : l.length ≤ 10000) (a n : Nat) (hp : p < x) (hm : m p = some (.cells [.s (bs l), .i .i64 a, .i .i64 n] false))
    (h1 : (getS l a).2.2 ≠ 0 → ∀ x', x ≤ x' → K (.pan (stopV (getS l a).2.2)) m x')
    (h2 : (getS l a).2.2 = 0 → ∀ x', x ≤ x' → K (.ret (.i .i64 (getS l a).1)) (m.set p (some (.cells [.s (bs l), .i .i64 (getS l a).2.1, .i .i64 n] false))) x') :
    w ctx (envOf [.p p 0]) m x [] none none (RetG ctx lcode_reader_number.c.rs K) lcode_reader_number.c.code := by
  have hG := octet_Get.a l a hl hn
  have hfo : ctx.frz lcode_want.n = false := rfl
  generalize getS l a = r at *
  obtain ⟨r1, r2, r3⟩ := r
  simp only at h1 h2
  unfold t3 at hG
  simp only at hG
  simp +contextual (disch := omega) [Nat.add_assoc, Int.add_assoc, if_pos, if_neg, -Int.not_lt, -Int.not_le, -Nat.not_lt, -Nat.not_le, -List.length_flatMap, lcode_reader_number.c, hm, ansK hG]
  rw [CallX_op (by rfl)]
  refine openg_w rfl rfl (.inl rfl) ?_
  rw [hfo]
  refine lcode_want.w _ _ ?_
  intro x1 hx1
  by_cases h3 : r3 = 0
  · subst h3
    simp +contextual (disch := omega) [Nat.add_assoc, Int.add_assoc, if_pos, if_neg, -Int.not_lt, -Int.not_le, -Nat.not_lt, -Nat.not_le, -List.length_flatMap, hm]
    exact h2 rfl _ (by omega)
  · simp +contextual (disch := omega) [Nat.add_assoc, Int.add_assoc, if_pos, if_neg, -Int.not_lt, -Int.not_le, -Nat.not_lt, -Nat.not_le, -List.length_flatMap, h3]
    exact h1 h3 _ (by omega)
/-- A place of the store, and what is new: can all be written to, and tells of these alone? -/
def InnM (p x : Nat) (m : Sto) : Prop := ∀ j, x ≤ j → innO (orNew [p] x) (m j) = true
theorem InnM.none {p x : Nat} {m : Sto} (h : ∀ j, x ≤ j → m j = none) : InnM p x m := fun j hj => by rw [h j hj]; rfl
theorem InnM.set {p x : Nat} {m : Sto} (h : InnM p x m) {l : Nat} {o : Option PObj} (ho : x ≤ l → innO (orNew [p] x) o = true) : InnM p x (m.set l o) := by
  intro j hj
  by_cases e : j = l
  · subst e; rw [Sto.seq]; exact ho hj
  · rw [Sto.sne _ _ _ _ e]; exact h j hj
/-- What stands behind a reading. -/
def ReadK (l : List Nat) (p x : Nat) (m : Sto) (d : Nat) (K : CR → Sto → Nat → Prop) : RR → Prop
  | .bad e => ∀ m' x' (a n : Int), x ≤ x' → (∀ j, j < x → j ≠ p → m' j = m j) → m' p = some (.cells [.s (bs l), .i .i64 a, .i .i64 n] false) → InnM p x m' → K (.pan (stopV e)) m' x'
  | .ok v a n => ∀ cs m' x', x ≤ x' → (∀ j, j < x → j ≠ p → m' j = m j) → m' p = some (.cells [.s (bs l), .i .i64 a, .i .i64 n] false) → InnM p x m' → cs.length = 3 → innL (orNew [p] x) cs = true → FzAt m' x x' d cs (cL v) → K (.ret (.ag cs)) m' x'
mutual
theorem V.inn_mono {S T : Nat → Bool} (h : ∀ j, S j = true → T j = true) : ∀ v : V, v.inn S = true → v.inn T = true
  | .b _, _ => rfl
  | .i _ _, _ => rfl
  | .s _, _ => rfl
  | .np, _ => rfl
  | .p l _, e => by simp only [V.inn] at *; exact h _ e
  | .rp _, _ => rfl
  | .ns, _ => rfl
  | .sl _ _, _ => rfl
  | .ms _ _ _ _, e => by simp only [V.inn] at *; exact h _ e
  | .nm, _ => rfl
  | .mp _, e => by simp only [V.inn] at *; exact h _ e
  | .rm _ _, _ => rfl
  | .nf, _ => rfl
  | .fn f a c, e => by
    cases f with
    | func g =>
      simp only [V.inn, Bool.and_eq_true] at *
      exact ⟨innL_mono h a e.1, innL_mono h c e.2⟩
    | _ => simp [V.inn] at e
  | .ni, _ => rfl
  | .fc _ v, e => by simp only [V.inn] at *; exact V.inn_mono h v e
  | .ag cs, e => by simp only [V.inn] at *; exact innL_mono h cs e
  | .tu cs, e => by simp only [V.inn] at *; exact innL_mono h cs e
  | .un, _ => rfl
theorem innL_mono {S T : Nat → Bool} (h : ∀ j, S j = true → T j = true) : ∀ l : List V, innL S l = true → innL T l = true
  | [], _ => rfl
  | c :: cs, e => by
    simp only [innL, Bool.and_eq_true] at *
    exact ⟨V.inn_mono h c e.1, innL_mono h cs e.2⟩
end
theorem innO_mono {S T : Nat → Bool} (h : ∀ j, S j = true → T j = true) (o : Option PObj) (e : innO S o = true) : innO T o = true := by
  cases o with
  | none => rfl
  | some o =>
    cases o with
    | cells cs r =>
      cases r with
      | true => simp [innO] at e
      | false => simp only [innO] at *; exact innL_mono h cs e
    | map ks vs r =>
      cases r with
      | true => simp [innO] at e
      | false => simp only [innO, Bool.and_eq_true] at *; exact ⟨innL_mono h ks e.1, innL_mono h vs e.2⟩
    | _ => simp [innO] at e
theorem orNew_up {p x y : Nat} (h : x ≤ y) : ∀ j, orNew [p] y j = true → orNew [p] x j = true := by
  intro j hj
  simp [orNew] at *
  omega
/-- What stands behind a reading in a region of open order. -/
def ReadQ (l : List Nat) (p x : Nat) (m : Sto) (d : Nat) (K : QR → Prop) : RR → Prop
  | .bad e => ∀ ws ids x' (a n : Int), x ≤ x' → (∀ j, j < x → j ≠ p → (m.app ws) j = m j) → (∀ j, x' ≤ j → (m.app ws) j = m j) → (m.app ws) p = some (.cells [.s (bs l), .i .i64 a, .i .i64 n] false) → (∀ j, x ≤ j → j < x' → innO (orNew [p] x) ((m.app ws) j) = true) → K ⟨stopV e, ws, ids, x', true⟩
  | .ok v a n => ∀ cs ws ids x', x ≤ x' → (∀ j, j < x → j ≠ p → (m.app ws) j = m j) → (∀ j, x' ≤ j → (m.app ws) j = m j) → (m.app ws) p = some (.cells [.s (bs l), .i .i64 a, .i .i64 n] false) → (∀ j, x ≤ j → j < x' → innO (orNew [p] x) ((m.app ws) j) = true) →
      (∀ j ∈ ids, j = p ∨ (x ≤ j ∧ j < x')) → ws.map Prod.fst = ids → cs.length = 3 → innL (orNew [p] x) cs = true → FzAt (m.app ws) x x' d cs (cL v) → K ⟨.ag cs, ws, ids, x', false⟩
theorem read_q {g : Nat} {F : PFun} (hF : ctx.fns g = some F) (hpr : ctx.prim g = none) (ho : ctx.opn g = true) (hq : ctx.frz g = false) (l : List Nat) (p d : Nat) (v : V) (hv : v = .i .i64 ((12 : Int) - d)) {r : RR} {a n : Nat}
    (hw : ∀ {m : Sto} {x : Nat} {K : CR → Sto → Nat → Prop}, p < x → m p = some (.cells [.s (bs l), .i .i64 a, .i .i64 n] false) → (∀ j, x ≤ j → m j = none) → ReadK l p x m d K r → w ctx (envOf [.p p 0, .i .i64 ((12 : Int) - d)]) m x [] none none (RetG ctx F.rs K) F.code)
    {m : Sto} {x : Nat} {K : QR → Prop} (hp : p < x) (hm : m p = some (.cells [.s (bs l), .i .i64 a, .i .i64 n] false)) (hK : ReadQ l p x m d K r) : wpQuiet ctx (.fn (.func g) [] []) [.p p 0, v] m x K := by
  subst hv
  have hz : freezeL m ([] ++ [.p p 0, .i .i64 ((12 : Int) - d)] ++ []) = some ([.rp [.s (bs l), .i .i64 a, .i .i64 n], .i .i64 ((12 : Int) - d)], [p]) := by
    simp +contextual (disch := omega) [Nat.add_assoc, Int.add_assoc, if_pos, if_neg, -Int.not_lt, -Int.not_le, -Nat.not_lt, -Nat.not_le, -List.length_flatMap, hm]
  have honly : (m.only [p]) p = some (.cells [.s (bs l), .i .i64 a, .i .i64 n] false) := by unfold Sto.only; rw [if_pos (by simp), hm]
  have hnone : ∀ j, x ≤ j → (m.only [p]) j = none := fun j hj => by unfold Sto.only; rw [if_neg (by simp; omega)]
  refine openr_w hF hpr ho hq hz (.inl (by simp)) ?_ ?_
  · simp [reachOK, innL, V.inn, hm, innO, hp]
  refine hw hp honly hnone ?_
  have hxx : ∀ x', x ≤ x' → x + (x' - x) = x' := fun x' h => by omega
  have sel : ∀ (m' : Sto) (x' : Nat) (ws : Ws), x ≤ x' → (∀ (m0 : Sto) l, (m0.app ws) l = if x ≤ l ∧ l < x' then m' l else if [p].contains l = true then m' l else m0 l) → (∀ j, j < x → j ≠ p → (m.app ws) j = m j) ∧ (∀ j, x' ≤ j → (m.app ws) j = m j) ∧ (m.app ws) p = m' p ∧ ∀ j, x ≤ j → j < x' → (m.app ws) j = m' j := by
    intro m' x' ws hx h
    refine ⟨fun j h1 h2 => ?_, fun j h1 => ?_, ?_, fun j h1 h2 => ?_⟩
    · rw [h, if_neg (by omega), if_neg (by simpa using h2)]
    · rw [h, if_neg (by omega), if_neg (by simp; omega)]
    · rw [h, if_neg (by omega), if_pos (by simp)]
    · rw [h, if_pos ⟨h1, h2⟩]
  cases r with
  | bad e =>
    intro m' x' a' n' h1 h2 h3 h4
    show ReachK [p] x (stopV e) m' x' K true
    refine ⟨by simp [stopV, V.inn, innL], fun j hj => ?_, fun j q1 q2 => h4 j q1, fun ws ids w1 w2 w3 => ?_⟩
    · rw [List.mem_singleton.1 hj, h3]; simp [innO, innL, V.inn]
    · rw [hxx _ h1]
      obtain ⟨s1, s2, s3, s4⟩ := sel m' x' ws h1 w3
      exact hK ws ids x' a' n' h1 s1 s2 (s3.trans h3) (fun j q1 q2 => by rw [s4 j q1 q2]; exact h4 j q1)
  | ok u a' n' =>
    intro cs m' x' h1 h2 h3 h4 h5 h6 h7
    show ReachK [p] x (.ag cs) m' x' K false
    refine ⟨by simpa [V.inn] using h6, fun j hj => ?_, fun j q1 q2 => h4 j q1, fun ws ids w1 w2 w3 => ?_⟩
    · rw [List.mem_singleton.1 hj, h3]; simp [innO, innL, V.inn]
    · rw [hxx _ h1]
      obtain ⟨s1, s2, s3, s4⟩ := sel m' x' ws h1 w3
      exact hK cs ws ids x' h1 s1 s2 (s3.trans h3) (fun j q1 q2 => by rw [s4 j q1 q2]; exact h4 j q1) (fun j hj => by have := w1 j hj; simpa using this) w2 h5 h6 (h7.wide (Nat.le_refl _) (Nat.le_refl _) s4)
theorem opK_with {o : Option (V × Ws)} {K : V → Ws → Prop} (P : V → Ws → Prop) (hP : ∀ v ws, o = some (v, ws) → P v ws) (h : opK o (fun v ws => P v ws → K v ws)) : opK o K := by
  cases o with
  | none => exact h
  | some q => exact h (hP _ _ rfl)
theorem innL_app {S : Nat → Bool} : ∀ {a b : List V}, innL S a = true → innL S b = true → innL S (a ++ b) = true
  | [], _, _, h => h
  | c :: a, b, h, k => by
    simp only [innL, List.cons_append, Bool.and_eq_true] at *
    exact ⟨h.1, innL_app h.2 k⟩
theorem InnM.ap {p x0 slot lo x d : Nat} {m m' : Sto} {B : V} {vs : List L} {cs : List V} {v : V} {ws : Ws} (hI : InnM p x0 m') (hB : Bn m B cL 3 vs lo x d) (hm : ∀ j, lo ≤ j → j < x → m' j = m j) (hx : x0 ≤ lo) (hs : x0 ≤ slot) (hc : innL (orNew [p] x0) cs = true)
    (h : apV m' 3 B cs 1 slot = some (v, ws)) : InnM p x0 (m'.app ws) ∧ v.inn (orNew [p] x0) = true := by
  have hin : (orNew [p] x0) slot = true := by simp [orNew]; omega
  rcases hB with ⟨rfl, rfl⟩ | ⟨b, cc, rfl, h2, ⟨h3, h4⟩, h5, h6⟩
  · rw [apV_ns, if_neg (by omega), if_pos (by decide)] at h
    simp only [Option.some.injEq, Prod.mk.injEq] at h
    obtain ⟨rfl, rfl⟩ := h
    refine ⟨?_, by simpa [V.inn] using hin⟩
    rw [sapp_cons, sapp_nil]
    exact hI.set (fun _ => by simpa [innO] using hc)
  · have hb := hI b (by omega)
    rw [hm b h5 h6, h2] at hb
    simp only [innO] at hb
    rw [apV_ms, if_neg (by omega), hm b h5 h6, h2, apO_cells] at h
    split at h
    · simp only [Option.some.injEq, Prod.mk.injEq] at h
      obtain ⟨rfl, rfl⟩ := h
      refine ⟨?_, by simpa [V.inn] using hin⟩
      rw [sapp_cons, sapp_cons, sapp_nil, List.take_of_length_le (by rw [h3]; exact Nat.le_refl _)]
      exact (hI.set (fun _ => rfl)).set (fun _ => by simpa [innO] using innL_app hb hc)
    · cases h
/-- What stands behind a round of the reader's loop. -/
def RoundK (l : List Nat) (p x0 y d : Nat) (k : Int) (c i : Nat) (vs : List L) (M : Sto) (x : Nat) (Q : X → S → Prop) (b : PCode) (dv : V) : RR → Prop
  | .bad er => ∀ M' x' (a n : Int), x ≤ x' → (∀ j, j < x → j ≠ p → M' j = M j) → M' p = some (.cells [.s (bs l), .i .i64 a, .i .i64 n] false) → InnM p x0 M' → Q (.pan (stopV er)) ⟨fun _ => .un, M', x', [], none, none⟩
  | .ok v a n => ∀ e' M' x' B', x ≤ x' → (∀ j, j < y → j ≠ p → M' j = M j) → M' p = some (.cells [.s (bs l), .i .i64 a, .i .i64 n] false) → M' y = some (.cells [.i .i64 k, .i .i64 0, B'] false) → Bn M' B' cL 3 (vs ++ [v]) (y + 1) x' d → InnM p x0 M' → B'.inn (orNew [p] x0) = true →
      (e' 0 = .p p 0 ∧ e' 1 = dv ∧ e' 4 = .p x0 0 ∧ e' 5 = .p y 0 ∧ e' 54 = .i .i64 c ∧ e' 55 = .i .i64 (i + 1 : Nat)) → w ctx e' M' x' [] none none Q (.loop b)
set_option maxHeartbeats 2000000 in
theorem lcode_round (l : List Nat) (p x0 y d : Nat) (k : Int) (c i a n : Nat) (vs : List L) {M : Sto} {x : Nat} {B : V} {e : Env} {Q : X → S → Prop} (hd : d ≤ 11)
    (hw : ∀ {m : Sto} {x : Nat} {K : CR → Sto → Nat → Prop}, p < x → m p = some (.cells [.s (bs l), .i .i64 a, .i .i64 n] false) → (∀ j, x ≤ j → m j = none) → ReadK l p x m d K (rdL l d a n) → w ctx (envOf [.p p 0, .i .i64 ((12 : Int) - d)]) m x [] none none (RetG ctx lcode_reader_level.c.rs K) lcode_reader_level.c.code)
    (he : e 0 = .p p 0 ∧ e 1 = .i .i64 ((12 : Int) - (d + 1)) ∧ e 4 = .p x0 0 ∧ e 5 = .p y 0 ∧ e 54 = .i .i64 c ∧ e 55 = .i .i64 i) (hi : i < c) (hc : c ≤ 2) (hp : p < x0) (hy : x0 < y) (hx : y < x) (hv : vs.length ≤ 2)
    (h1 : M p = some (.cells [.s (bs l), .i .i64 a, .i .i64 n] false)) (h2 : M y = some (.cells [.i .i64 k, .i .i64 0, B] false)) (hB : Bn M B cL 3 vs (y + 1) x d) (hI : InnM p x0 M) (hBi : B.inn (orNew [p] x0) = true)
    (hK : RoundK l p x0 y d k c i vs M x Q lcode_reader_level.b1 (.i .i64 ((12 : Int) - (d + 1))) (rdL l d a n)) : w ctx e M x [] none none (LpU ctx lcode_reader_level.b1 Q) lcode_reader_level.b1 := by
  obtain ⟨e0, e1, e4, e5, e54, e55⟩ := he
  have hd1 : ((12 : Int) - (d + 1) + 1) = 12 - d := by omega
  simp +contextual (disch := omega) [Nat.add_assoc, Int.add_assoc, if_pos, if_neg, -Int.not_lt, -Int.not_le, -Nat.not_lt, -Nat.not_le, -List.length_flatMap, lcode_reader_level.b1, e0, e1, e5, e54, e55, hi, h2, hd1]
  rw [CallQ_op (by rfl)]
  refine read_q lcode_reader_level.f rfl rfl rfl l p d _ rfl hw (by omega) h1 ?_
  generalize rdL l d a n = r at hK ⊢
  cases r with
  | bad er =>
    intro ws ids x' a' n' q1 q2 q3 q4 q5
    simp +contextual (disch := omega) [Nat.add_assoc, Int.add_assoc, if_pos, if_neg, -Int.not_lt, -Int.not_le, -Nat.not_lt, -Nat.not_le, -List.length_flatMap]
    rw [IfK_pos ⟨rfl, rfl⟩]
    refine hK _ x' a' n' (by omega) (fun j h1 h2 => q2 j (by omega) h2) q4 (fun j hj => ?_)
    by_cases hjx : j < x + 6
    · rw [q2 j hjx (by omega)]; exact hI j hj
    · by_cases hjx' : j < x'
      · exact innO_mono (orNew_up (by omega)) _ (q5 j (by omega) hjx')
      · rw [q3 j (by omega)]; exact hI j hj
  | ok v a' n' =>
    intro cs ws ids x' q1 q2 q3 q4 q5 q6 q7 q8 q9 q10
    have hws : ∀ (a : Nat) (b : Option PObj), (a, b) ∈ ws → ¬ a = y := fun a b h e => by
      have h1 : a ∈ ids := by rw [← q7]; exact List.mem_map.2 ⟨(a, b), h, rfl⟩
      have := q6 a h1
      omega
    simp +contextual (disch := omega) [Nat.add_assoc, Int.add_assoc, if_pos, if_neg, -Int.not_lt, -Int.not_le, -Nat.not_lt, -Nat.not_le, -List.length_flatMap]
    rw [IfK_pos ⟨hws, by omega⟩, List.take_of_length_le (by omega)]
    generalize hM2 : Sto.set (M.app ws) x' _ = M2
    have hj2 : ∀ j, j < x → j ≠ p → M2 j = M j := fun j h1 h2 => by rw [← hM2, Sto.sne _ _ _ _ (by omega), q2 j (by omega) h2]
    have hI2 : InnM p x0 M2 := by
      rw [← hM2]
      refine InnM.set (fun j hj => ?_) (fun _ => by simpa [innO] using innL_mono (orNew_up (by omega)) cs q9)
      by_cases hjx : j < x + 6
      · rw [q2 j hjx (by omega)]; exact hI j hj
      · by_cases hjx' : j < x'
        · exact innO_mono (orNew_up (by omega)) _ (q5 j (by omega) hjx')
        · rw [q3 j (by omega)]; exact hI j hj
    have hp2 : M2 p = some (.cells [.s (bs l), .i .i64 a', .i .i64 n'] false) := by rw [← hM2, Sto.sne _ _ _ _ (by omega), q4]
    refine opK_with (fun v ws => InnM p x0 (M2.app ws) ∧ v.inn (orNew [p] x0) = true) (fun v ws h => InnM.ap hI2 hB (fun j h1 h2 => hj2 j h2 (by omega)) (by omega) (by omega) (innL_mono (orNew_up (by omega)) cs q9) h) ?_
    refine hB.ap v (fun j h1 h2 => hj2 j h2 (by omega)) (by omega) (by omega) (q10.wide (by omega) (by omega) (fun j h1 h2 => by rw [← hM2, Sto.sne _ _ _ _ (by omega)])) q8 rfl (by omega) ?_
    intro B' ws2 M3 z0 z1 z2 z3 z4
    rw [z0] at z4
    have t1 := (z2 y (by omega)).trans ((hj2 y (by omega) (by omega)).trans h2)
    simp +contextual (disch := omega) [Nat.add_assoc, Int.add_assoc, if_pos, if_neg, -Int.not_lt, -Int.not_le, -Nat.not_lt, -Nat.not_le, -List.length_flatMap, z0, t1, z1.stor, z1.cells, e0, e1, e4, e5, e54, e55]
    refine hK _ _ _ B' (by omega) (fun j h1 h2 => ?_) ?_ ?_ ?_ ?_ z4.2 ?_
    · rw [Sto.sne _ _ _ _ (by omega), z2 j (by omega), hj2 j (by omega) h2]
    · rw [Sto.sne _ _ _ _ (by omega), z2 p (by omega), hp2]
    · rw [Sto.seq]
    · exact z1.up (by omega) (fun j h1 h2 => Sto.sne _ _ _ _ (by omega))
    · refine z4.1.set (fun _ => ?_)
      simp [innO, innL, V.inn, z4.2]
    · simp +contextual (disch := omega) [Nat.add_assoc, Int.add_assoc, if_pos, if_neg, -Int.not_lt, -Int.not_le, -Nat.not_lt, -Nat.not_le, -List.length_flatMap, e0, e1, e4, e5, e54, e55]
set_option maxHeartbeats 2000000 in
theorem lcode_reader_level.w (l : List Nat) (hl : Byt l) (hn : l.length ≤ 10000) (p : Nat) : ∀ (d : Nat), d ≤ 12 → ∀ (a n : Nat) {m : Sto} {x : Nat} {K : CR → Sto → Nat → Prop}, p < x → m p = some (.cells [.s (bs l), .i .i64 a, .i .i64 n] false) → (∀ j, x ≤ j → m j = none) →
    ReadK l p x m d K (rdL l d a n) →
    w ctx (envOf [.p p 0, .i .i64 ((12 : Int) - d)]) m x [] none none (RetG ctx lcode_reader_level.c.rs K) lcode_reader_level.c.code := by
  intro d
  induction d with
  | zero =>
    intro hd a n m x K hp hm hN hK
    have hfo : ctx.frz lcode_want.n = false := rfl
    simp +contextual (disch := omega) [Nat.add_assoc, Int.add_assoc, if_pos, if_neg, -Int.not_lt, -Int.not_le, -Nat.not_lt, -Nat.not_le, -List.length_flatMap, lcode_reader_level.c, hm]
    rw [CallX_op (by rfl)]
    refine openg_w rfl rfl (.inl rfl) ?_
    rw [hfo]
    refine lcode_want.w _ _ ?_
    intro x1 hx1
    simp +contextual (disch := omega) [Nat.add_assoc, Int.add_assoc, if_pos, if_neg, -Int.not_lt, -Int.not_le, -Nat.not_lt, -Nat.not_le, -List.length_flatMap]
    exact hK _ _ a n (by omega) (fun j h1 h2 => by simp +contextual (disch := omega) [Nat.add_assoc, Int.add_assoc, if_pos, if_neg, -Int.not_lt, -Int.not_le, -Nat.not_lt, -Nat.not_le, -List.length_flatMap]) (by simp +contextual (disch := omega) [Nat.add_assoc, Int.add_assoc, if_pos, if_neg, -Int.not_lt, -Int.not_le, -Nat.not_lt, -Nat.not_le, -List.length_flatMap, hm]) ((InnM.none hN).set (fun _ => rfl))
  | succ d ih =>
    intro hd a n m x K hp hm hN hK
    have hfo : ctx.frz lcode_want.n = false := rfl
    have hfn : ctx.frz lcode_reader_number.n = false := rfl
    have hfl : ctx.frz lcode_reader_level.n = false := rfl
    unfold rdL at hK
    simp +contextual (disch := omega) [Nat.add_assoc, Int.add_assoc, if_pos, if_neg, -Int.not_lt, -Int.not_le, -Nat.not_lt, -Nat.not_le, -List.length_flatMap, lcode_reader_level.c, hm]
    rw [CallX_op (by rfl)]
    refine openg_w rfl rfl (.inl rfl) ?_
    rw [hfo]
    refine lcode_want.w _ _ ?_
    intro x1 hx1
    by_cases h100 : 100 ≤ n
    · rw [if_pos h100] at hK
      have h100' : ¬ (n : Int) < 100 := by omega
      simp +contextual (disch := omega) [Nat.add_assoc, Int.add_assoc, if_pos, if_neg, -Int.not_lt, -Int.not_le, -Nat.not_lt, -Nat.not_le, -List.length_flatMap, h100']
      exact hK _ _ a n (by omega) (fun j h1 h2 => by simp +contextual (disch := omega) [Nat.add_assoc, Int.add_assoc, if_pos, if_neg, -Int.not_lt, -Int.not_le, -Nat.not_lt, -Nat.not_le, -List.length_flatMap]) (by simp +contextual (disch := omega) [Nat.add_assoc, Int.add_assoc, if_pos, if_neg, -Int.not_lt, -Int.not_le, -Nat.not_lt, -Nat.not_le, -List.length_flatMap, hm]) ((InnM.none hN).set (fun _ => rfl))
    rw [if_neg h100] at hK
    have h100' : (n : Int) < 100 := by omega
    simp +contextual (disch := omega) [Nat.add_assoc, Int.add_assoc, if_pos, if_neg, -Int.not_lt, -Int.not_le, -Nat.not_lt, -Nat.not_le, -List.length_flatMap, h100', hm]
    rw [CallX_op (by rfl)]
    refine openg_w rfl rfl (.inl rfl) ?_
    rw [hfn]
    refine lcode_reader_number.w l hl hn a (n + 1) (by omega) (by simp +contextual (disch := omega) [Nat.add_assoc, Int.add_assoc, if_pos, if_neg, -Int.not_lt, -Int.not_le, -Nat.not_lt, -Nat.not_le, -List.length_flatMap]) ?_ ?_
    · intro h0 x2 hx2
      rw [if_pos h0] at hK
      simp +contextual (disch := omega) [Nat.add_assoc, Int.add_assoc, if_pos, if_neg, -Int.not_lt, -Int.not_le, -Nat.not_lt, -Nat.not_le, -List.length_flatMap]
      refine hK _ _ a (n + 1) (by omega) (fun j h1 h2 => ?_) ?_ ?_
      · simp +contextual (disch := omega) [Nat.add_assoc, Int.add_assoc, if_pos, if_neg, -Int.not_lt, -Int.not_le, -Nat.not_lt, -Nat.not_le, -List.length_flatMap]
      · simp +contextual (disch := omega) [Nat.add_assoc, Int.add_assoc, if_pos, if_neg, -Int.not_lt, -Int.not_le, -Nat.not_lt, -Nat.not_le, -List.length_flatMap]
      · exact ((InnM.none hN).set (fun _ => rfl)).set (fun h => rfl)
    intro h0 x2 hx2
    rw [if_neg (by omega)] at hK
    generalize getS l a = r at hK h0 ⊢
    obtain ⟨k, a1, e1⟩ := r
    simp only at hK h0 ⊢
    obtain ⟨M, hM⟩ : ∃ M, M = ((((m.set x (some (.cells [.i .i64 0, .i .i64 0, .ns] false))).set p (some (.cells [.s (bs l), .i .i64 a, .i .i64 (n + 1)] false))).set p (some (.cells [.s (bs l), .i .i64 a1, .i .i64 (n + 1)] false)))) := ⟨_, rfl⟩
    have hMx : M x = some (.cells [.i .i64 0, .i .i64 0, .ns] false) := by rw [hM]; simp +contextual (disch := omega) [Nat.add_assoc, Int.add_assoc, if_pos, if_neg, -Int.not_lt, -Int.not_le, -Nat.not_lt, -Nat.not_le, -List.length_flatMap]
    have hMp : M p = some (.cells [.s (bs l), .i .i64 a1, .i .i64 (n + 1 : Nat)] false) := by rw [hM]; simp +contextual (disch := omega) [Nat.add_assoc, Int.add_assoc, if_pos, if_neg, -Int.not_lt, -Int.not_le, -Nat.not_lt, -Nat.not_le, -List.length_flatMap]
    have hMj : ∀ j, j < x → j ≠ p → M j = m j := fun j h1 h2 => by rw [hM]; simp +contextual (disch := omega) [Nat.add_assoc, Int.add_assoc, if_pos, if_neg, -Int.not_lt, -Int.not_le, -Nat.not_lt, -Nat.not_le, -List.length_flatMap]
    have hMI : InnM p x M := by
      rw [hM]
      exact (((InnM.none hN).set (fun _ => rfl)).set (fun h => rfl)).set (fun h => rfl)
    have hk : k = 1 ∨ k = 2 ∨ k = 3 ∨ k = 4 ∨ k = 5 ∨ k = 6 ∨ (k ≠ 1 ∧ k ≠ 2 ∧ k ≠ 3 ∧ k ≠ 4 ∧ k ≠ 5 ∧ k ≠ 6) := by omega
    rcases hk with rfl | rfl | rfl | rfl | rfl | rfl | ⟨k1, k2, k3, k4, k5, k6⟩
    · rw [if_pos rfl] at hK
      simp +contextual (disch := omega) [Nat.add_assoc, Int.add_assoc, if_pos, if_neg, -Int.not_lt, -Int.not_le, -Nat.not_lt, -Nat.not_le, -List.length_flatMap, hM.symm, hMx]
      refine un_w ?_
      simp +contextual (disch := omega) [Nat.add_assoc, Int.add_assoc, if_pos, if_neg, -Int.not_lt, -Int.not_le, -Nat.not_lt, -Nat.not_le, -List.length_flatMap, lcode_reader_level.b1, hMx]
      refine hK _ _ _ (by omega) (fun j h1 h2 => ?_) ?_ ?_ rfl rfl (fun m2 _ dd _ => ⟨[], by simp⟩)
      · rw [Sto.sne _ _ _ _ (by omega), Sto.sne _ _ _ _ (by omega), Sto.sne _ _ _ _ (by omega), hMj j h1 h2]
      · rw [Sto.sne _ _ _ _ (by omega), Sto.sne _ _ _ _ (by omega), Sto.sne _ _ _ _ (by omega), hMp]
      · exact ((hMI.set (fun _ => rfl)).set (fun _ => rfl)).set (fun _ => rfl)
    · rw [if_neg (by omega), if_neg (by omega), if_pos rfl] at hK
      simp +contextual (disch := omega) [Nat.add_assoc, Int.add_assoc, if_pos, if_neg, -Int.not_lt, -Int.not_le, -Nat.not_lt, -Nat.not_le, -List.length_flatMap, hM.symm, hMx]
      refine un_w ?_
      refine lcode_round l p x (x2 + 1) d 2 1 0 a1 (n + 1) [] (B := .ns) (by omega) (fun hp hm hN hK => ih (by omega) a1 (n + 1) hp hm hN hK) (by simp +contextual (disch := omega) [Nat.add_assoc, Int.add_assoc, if_pos, if_neg, -Int.not_lt, -Int.not_le, -Nat.not_lt, -Nat.not_le, -List.length_flatMap]) (by omega) (by omega) hp (by omega) (by omega) (by simp) (by simp +contextual (disch := omega) [Nat.add_assoc, Int.add_assoc, if_pos, if_neg, -Int.not_lt, -Int.not_le, -Nat.not_lt, -Nat.not_le, -List.length_flatMap, hMp]) (by simp +contextual (disch := omega) [Nat.add_assoc, Int.add_assoc, if_pos, if_neg, -Int.not_lt, -Int.not_le, -Nat.not_lt, -Nat.not_le, -List.length_flatMap]) Bn.nil ((hMI.set (fun _ => rfl)).set (fun _ => rfl)) rfl ?_
      generalize rdL l d a1 (n + 1) = r at hK ⊢
      cases r with
      | bad e =>
        intro M' x' a' n' q1 q2 q3 q4
        simp +contextual (disch := omega) [Nat.add_assoc, Int.add_assoc, if_pos, if_neg, -Int.not_lt, -Int.not_le, -Nat.not_lt, -Nat.not_le, -List.length_flatMap]
        exact hK M' x' a' n' (by omega) (fun j h1 h2 => by rw [q2 j (by omega) h2, Sto.sne _ _ _ _ (by omega), Sto.sne _ _ _ _ (by omega), hMj j h1 h2]) q3 q4
      | ok v2 a3 n3 =>
        intro e3 M3 x3 B3 s1 s2 s3 s4 s5 s6 s7 s8
        obtain ⟨s80, s81, s84, s85, s854, s855⟩ := s8
        have t0 : M3 x = some (.cells [.i .i64 0, .i .i64 0, .ns] false) := by rw [s2 x (by omega) (by omega), Sto.sne _ _ _ _ (by omega), Sto.sne _ _ _ _ (by omega), hMx]
        refine un_w ?_
        simp +contextual (disch := omega) [Nat.add_assoc, Int.add_assoc, if_pos, if_neg, -Int.not_lt, -Int.not_le, -Nat.not_lt, -Nat.not_le, -List.length_flatMap, lcode_reader_level.b1, s80, s81, s84, s85, s854, s855, s4, t0]
        refine hK _ _ _ (by omega) (fun j h1 h2 => ?_) ?_ ?_ rfl ?_ ?_
        · rw [Sto.sne _ _ _ _ (by omega), s2 j (by omega) h2, Sto.sne _ _ _ _ (by omega), Sto.sne _ _ _ _ (by omega), hMj j h1 h2]
        · rw [Sto.sne _ _ _ _ (by omega), s3]
        · exact s6.set (fun _ => by simp [innO, innL, V.inn, s7])
        · simp [innL, V.inn, s7]
        · have z := (s5.up (m' := M3.set x (some (.cells [.i .i64 2, .i .i64 0, B3] false))) (x' := x3 + 3) (by omega) (fun j h1 h2 => Sto.sne _ _ _ _ (by omega))).at
          have z3 := (FzAt.fr (m := M3.set x (some (.cells [.i .i64 2, .i .i64 0, B3] false))) (lo := x2 + 1 + 1) (x := x3 + 3) (k := d + 1) (cs := [.i .i64 2, .i .i64 0]) (by simp)).app z
          rw [cL_at]
          simpa using z3.low (lo' := x) (by omega)
    · rw [if_neg (by omega), if_neg (by omega), if_neg (by omega), if_pos (.inl rfl)] at hK
      simp +contextual (disch := omega) [Nat.add_assoc, Int.add_assoc, if_pos, if_neg, -Int.not_lt, -Int.not_le, -Nat.not_lt, -Nat.not_le, -List.length_flatMap, hM.symm, hMx]
      refine un_w ?_
      refine lcode_round l p x (x2 + 1) d 3 2 0 a1 (n + 1) [] (B := .ns) (by omega) (fun hp hm hN hK => ih (by omega) a1 (n + 1) hp hm hN hK) (by simp +contextual (disch := omega) [Nat.add_assoc, Int.add_assoc, if_pos, if_neg, -Int.not_lt, -Int.not_le, -Nat.not_lt, -Nat.not_le, -List.length_flatMap]) (by omega) (by omega) hp (by omega) (by omega) (by simp) (by simp +contextual (disch := omega) [Nat.add_assoc, Int.add_assoc, if_pos, if_neg, -Int.not_lt, -Int.not_le, -Nat.not_lt, -Nat.not_le, -List.length_flatMap, hMp]) (by simp +contextual (disch := omega) [Nat.add_assoc, Int.add_assoc, if_pos, if_neg, -Int.not_lt, -Int.not_le, -Nat.not_lt, -Nat.not_le, -List.length_flatMap]) Bn.nil ((hMI.set (fun _ => rfl)).set (fun _ => rfl)) rfl ?_
      generalize rdL l d a1 (n + 1) = r at hK ⊢
      cases r with
      | bad e =>
        intro M' x' a' n' q1 q2 q3 q4
        simp +contextual (disch := omega) [Nat.add_assoc, Int.add_assoc, if_pos, if_neg, -Int.not_lt, -Int.not_le, -Nat.not_lt, -Nat.not_le, -List.length_flatMap]
        exact hK M' x' a' n' (by omega) (fun j h1 h2 => by rw [q2 j (by omega) h2, Sto.sne _ _ _ _ (by omega), Sto.sne _ _ _ _ (by omega), hMj j h1 h2]) q3 q4
      | ok v a' n' =>
        intro e' M' x' B' q1 q2 q3 q4 q5 q6 q7 q8
        simp only [RR.bind] at hK
        refine un_w ?_
        refine lcode_round l p x (x2 + 1) d 3 2 1 a' n' [v] (B := B') (by omega) (fun hp hm hN hK => ih (by omega) a' n' hp hm hN hK) q8 (by omega) (by omega) hp (by omega) (by omega) (by simp) q3 q4 q5 q6 q7 ?_
        generalize rdL l d a' n' = r at hK ⊢
        cases r with
        | bad e =>
          intro M3 x3 a3 n3 s1 s2 s3 s4
          simp +contextual (disch := omega) [Nat.add_assoc, Int.add_assoc, if_pos, if_neg, -Int.not_lt, -Int.not_le, -Nat.not_lt, -Nat.not_le, -List.length_flatMap]
          exact hK M3 x3 a3 n3 (by omega) (fun j h1 h2 => by rw [s2 j (by omega) h2, q2 j (by omega) h2, Sto.sne _ _ _ _ (by omega), Sto.sne _ _ _ _ (by omega), hMj j h1 h2]) s3 s4
        | ok v2 a3 n3 =>
          intro e3 M3 x3 B3 s1 s2 s3 s4 s5 s6 s7 s8
          obtain ⟨s80, s81, s84, s85, s854, s855⟩ := s8
          have t0 : M3 x = some (.cells [.i .i64 0, .i .i64 0, .ns] false) := by rw [s2 x (by omega) (by omega), q2 x (by omega) (by omega), Sto.sne _ _ _ _ (by omega), Sto.sne _ _ _ _ (by omega), hMx]
          refine un_w ?_
          simp +contextual (disch := omega) [Nat.add_assoc, Int.add_assoc, if_pos, if_neg, -Int.not_lt, -Int.not_le, -Nat.not_lt, -Nat.not_le, -List.length_flatMap, lcode_reader_level.b1, s80, s81, s84, s85, s854, s855, s4, t0]
          refine hK _ _ _ (by omega) (fun j h1 h2 => ?_) ?_ ?_ rfl ?_ ?_
          · rw [Sto.sne _ _ _ _ (by omega), s2 j (by omega) h2, q2 j (by omega) h2, Sto.sne _ _ _ _ (by omega), Sto.sne _ _ _ _ (by omega), hMj j h1 h2]
          · rw [Sto.sne _ _ _ _ (by omega), s3]
          · exact s6.set (fun _ => by simp [innO, innL, V.inn, s7])
          · simp [innL, V.inn, s7]
          · have z := (s5.up (m' := M3.set x (some (.cells [.i .i64 3, .i .i64 0, B3] false))) (x' := x3 + 3) (by omega) (fun j h1 h2 => Sto.sne _ _ _ _ (by omega))).at
            have z3 := (FzAt.fr (m := M3.set x (some (.cells [.i .i64 3, .i .i64 0, B3] false))) (lo := x2 + 1 + 1) (x := x3 + 3) (k := d + 1) (cs := [.i .i64 3, .i .i64 0]) (by simp)).app z
            rw [cL_at]
            simpa using z3.low (lo' := x) (by omega)
    · rw [if_neg (by omega), if_neg (by omega), if_neg (by omega), if_pos (.inr rfl)] at hK
      simp +contextual (disch := omega) [Nat.add_assoc, Int.add_assoc, if_pos, if_neg, -Int.not_lt, -Int.not_le, -Nat.not_lt, -Nat.not_le, -List.length_flatMap, hM.symm, hMx]
      refine un_w ?_
      refine lcode_round l p x (x2 + 1) d 4 2 0 a1 (n + 1) [] (B := .ns) (by omega) (fun hp hm hN hK => ih (by omega) a1 (n + 1) hp hm hN hK) (by simp +contextual (disch := omega) [Nat.add_assoc, Int.add_assoc, if_pos, if_neg, -Int.not_lt, -Int.not_le, -Nat.not_lt, -Nat.not_le, -List.length_flatMap]) (by omega) (by omega) hp (by omega) (by omega) (by simp) (by simp +contextual (disch := omega) [Nat.add_assoc, Int.add_assoc, if_pos, if_neg, -Int.not_lt, -Int.not_le, -Nat.not_lt, -Nat.not_le, -List.length_flatMap, hMp]) (by simp +contextual (disch := omega) [Nat.add_assoc, Int.add_assoc, if_pos, if_neg, -Int.not_lt, -Int.not_le, -Nat.not_lt, -Nat.not_le, -List.length_flatMap]) Bn.nil ((hMI.set (fun _ => rfl)).set (fun _ => rfl)) rfl ?_
      generalize rdL l d a1 (n + 1) = r at hK ⊢
      cases r with
      | bad e =>
        intro M' x' a' n' q1 q2 q3 q4
        simp +contextual (disch := omega) [Nat.add_assoc, Int.add_assoc, if_pos, if_neg, -Int.not_lt, -Int.not_le, -Nat.not_lt, -Nat.not_le, -List.length_flatMap]
        exact hK M' x' a' n' (by omega) (fun j h1 h2 => by rw [q2 j (by omega) h2, Sto.sne _ _ _ _ (by omega), Sto.sne _ _ _ _ (by omega), hMj j h1 h2]) q3 q4
      | ok v a' n' =>
        intro e' M' x' B' q1 q2 q3 q4 q5 q6 q7 q8
        simp only [RR.bind] at hK
        refine un_w ?_
        refine lcode_round l p x (x2 + 1) d 4 2 1 a' n' [v] (B := B') (by omega) (fun hp hm hN hK => ih (by omega) a' n' hp hm hN hK) q8 (by omega) (by omega) hp (by omega) (by omega) (by simp) q3 q4 q5 q6 q7 ?_
        generalize rdL l d a' n' = r at hK ⊢
        cases r with
        | bad e =>
          intro M3 x3 a3 n3 s1 s2 s3 s4
          simp +contextual (disch := omega) [Nat.add_assoc, Int.add_assoc, if_pos, if_neg, -Int.not_lt, -Int.not_le, -Nat.not_lt, -Nat.not_le, -List.length_flatMap]
          exact hK M3 x3 a3 n3 (by omega) (fun j h1 h2 => by rw [s2 j (by omega) h2, q2 j (by omega) h2, Sto.sne _ _ _ _ (by omega), Sto.sne _ _ _ _ (by omega), hMj j h1 h2]) s3 s4
        | ok v2 a3 n3 =>
          intro e3 M3 x3 B3 s1 s2 s3 s4 s5 s6 s7 s8
          obtain ⟨s80, s81, s84, s85, s854, s855⟩ := s8
          have t0 : M3 x = some (.cells [.i .i64 0, .i .i64 0, .ns] false) := by rw [s2 x (by omega) (by omega), q2 x (by omega) (by omega), Sto.sne _ _ _ _ (by omega), Sto.sne _ _ _ _ (by omega), hMx]
          refine un_w ?_
          simp +contextual (disch := omega) [Nat.add_assoc, Int.add_assoc, if_pos, if_neg, -Int.not_lt, -Int.not_le, -Nat.not_lt, -Nat.not_le, -List.length_flatMap, lcode_reader_level.b1, s80, s81, s84, s85, s854, s855, s4, t0]
          refine hK _ _ _ (by omega) (fun j h1 h2 => ?_) ?_ ?_ rfl ?_ ?_
          · rw [Sto.sne _ _ _ _ (by omega), s2 j (by omega) h2, q2 j (by omega) h2, Sto.sne _ _ _ _ (by omega), Sto.sne _ _ _ _ (by omega), hMj j h1 h2]
          · rw [Sto.sne _ _ _ _ (by omega), s3]
          · exact s6.set (fun _ => by simp [innO, innL, V.inn, s7])
          · simp [innL, V.inn, s7]
          · have z := (s5.up (m' := M3.set x (some (.cells [.i .i64 4, .i .i64 0, B3] false))) (x' := x3 + 3) (by omega) (fun j h1 h2 => Sto.sne _ _ _ _ (by omega))).at
            have z3 := (FzAt.fr (m := M3.set x (some (.cells [.i .i64 4, .i .i64 0, B3] false))) (lo := x2 + 1 + 1) (x := x3 + 3) (k := d + 1) (cs := [.i .i64 4, .i .i64 0]) (by simp)).app z
            rw [cL_at]
            simpa using z3.low (lo' := x) (by omega)
    · rw [if_neg (by omega), if_pos (.inl rfl)] at hK
      simp +contextual (disch := omega) [Nat.add_assoc, Int.add_assoc, if_pos, if_neg, -Int.not_lt, -Int.not_le, -Nat.not_lt, -Nat.not_le, -List.length_flatMap, hM.symm, hMx]
      rw [CallX_op (by rfl)]
      refine openg_w rfl rfl (.inl rfl) ?_
      rw [hfn]
      refine lcode_reader_number.w l hl hn a1 (n + 1) (by omega) (by simp +contextual (disch := omega) [Nat.add_assoc, Int.add_assoc, if_pos, if_neg, -Int.not_lt, -Int.not_le, -Nat.not_lt, -Nat.not_le, -List.length_flatMap, hMp]) ?_ ?_
      · intro h0 x3 hx3
        rw [if_pos h0] at hK
        simp +contextual (disch := omega) [Nat.add_assoc, Int.add_assoc, if_pos, if_neg, -Int.not_lt, -Int.not_le, -Nat.not_lt, -Nat.not_le, -List.length_flatMap]
        refine hK _ _ a1 (n + 1 : Nat) (by omega) (fun j h1 h2 => ?_) ?_ ?_
        · rw [Sto.sne _ _ _ _ (by omega), Sto.sne _ _ _ _ (by omega), hMj j h1 h2]
        · rw [Sto.sne _ _ _ _ (by omega), Sto.sne _ _ _ _ (by omega), hMp]
        · exact (hMI.set (fun _ => rfl)).set (fun _ => rfl)
      intro h0 x3 hx3
      rw [if_neg (by omega)] at hK
      generalize getS l a1 = r at hK h0 ⊢
      obtain ⟨u, a2, e2⟩ := r
      simp only at hK h0 ⊢
      have hNm : Ans ctx lcode_named.n [.i .i64 5] (.i .i64 5) := lcode_named.a 5
      simp +contextual (disch := omega) [Nat.add_assoc, Int.add_assoc, if_pos, if_neg, -Int.not_lt, -Int.not_le, -Nat.not_lt, -Nat.not_le, -List.length_flatMap, ansK hNm]
      rw [CallX_op (by rfl)]
      refine openg_w rfl rfl (.inl rfl) ?_
      rw [hfo]
      refine lcode_want.w _ _ ?_
      intro x4 hx4
      have hnn : (if (5 : Nat) = 5 then 5 else 10) = 5 := rfl
      first | rw [hnn] at hK | simp only [if_true] at hK
      have f1 : ∀ j, j < x → j ≠ p → ((((M.set (x2 + 1) (some (.cells [.i .i64 0, .i .i64 0, .ns] false))).set (x2 + 1) (some (.cells [.i .i64 5, .i .i64 0, .ns] false))).set p (some (.cells [.s (bs l), .i .i64 a2, .i .i64 (n + 1)] false))).set (x2 + 1) (some (.cells [.i .i64 5, .i .i64 u, .ns] false))) j = m j := fun j h1 h2 => by
        rw [Sto.sne _ _ _ _ (by omega), Sto.sne _ _ _ _ (by omega), Sto.sne _ _ _ _ (by omega), Sto.sne _ _ _ _ (by omega), hMj j h1 h2]
      have f3 : InnM p x ((((M.set (x2 + 1) (some (.cells [.i .i64 0, .i .i64 0, .ns] false))).set (x2 + 1) (some (.cells [.i .i64 5, .i .i64 0, .ns] false))).set p (some (.cells [.s (bs l), .i .i64 a2, .i .i64 (n + 1)] false))).set (x2 + 1) (some (.cells [.i .i64 5, .i .i64 u, .ns] false))) := (((hMI.set (fun _ => rfl)).set (fun _ => rfl)).set (fun _ => rfl)).set (fun _ => rfl)
      by_cases hu : 5 ≤ u
      · rw [if_pos hu] at hK
        have hu' : ¬ (u : Int) < 5 := by omega
        simp +contextual (disch := omega) [Nat.add_assoc, Int.add_assoc, if_pos, if_neg, -Int.not_lt, -Int.not_le, -Nat.not_lt, -Nat.not_le, -List.length_flatMap, hu']
        exact hK _ _ a2 (n + 1) (by omega) f1 (by simp +contextual (disch := omega) [Nat.add_assoc, Int.add_assoc, if_pos, if_neg, -Int.not_lt, -Int.not_le, -Nat.not_lt, -Nat.not_le, -List.length_flatMap]) f3
      · rw [if_neg hu] at hK
        have hu' : (u : Int) < 5 := by omega
        simp +contextual (disch := omega) [Nat.add_assoc, Int.add_assoc, if_pos, if_neg, -Int.not_lt, -Int.not_le, -Nat.not_lt, -Nat.not_le, -List.length_flatMap, hu', hMx]
        refine un_w ?_
        simp +contextual (disch := omega) [Nat.add_assoc, Int.add_assoc, if_pos, if_neg, -Int.not_lt, -Int.not_le, -Nat.not_lt, -Nat.not_le, -List.length_flatMap, lcode_reader_level.b1, hMx]
        refine hK _ _ _ (by omega) (fun j h1 h2 => ?_) (by simp +contextual (disch := omega) [Nat.add_assoc, Int.add_assoc, if_pos, if_neg, -Int.not_lt, -Int.not_le, -Nat.not_lt, -Nat.not_le, -List.length_flatMap]) (f3.set (fun _ => rfl)) rfl rfl (fun m2 _ dd _ => ⟨[], by simp⟩)
        rw [Sto.sne _ _ _ _ (by omega), f1 j h1 h2]
    · rw [if_neg (by omega), if_pos (.inr rfl)] at hK
      simp +contextual (disch := omega) [Nat.add_assoc, Int.add_assoc, if_pos, if_neg, -Int.not_lt, -Int.not_le, -Nat.not_lt, -Nat.not_le, -List.length_flatMap, hM.symm, hMx]
      rw [CallX_op (by rfl)]
      refine openg_w rfl rfl (.inl rfl) ?_
      rw [hfn]
      refine lcode_reader_number.w l hl hn a1 (n + 1) (by omega) (by simp +contextual (disch := omega) [Nat.add_assoc, Int.add_assoc, if_pos, if_neg, -Int.not_lt, -Int.not_le, -Nat.not_lt, -Nat.not_le, -List.length_flatMap, hMp]) ?_ ?_
      · intro h0 x3 hx3
        rw [if_pos h0] at hK
        simp +contextual (disch := omega) [Nat.add_assoc, Int.add_assoc, if_pos, if_neg, -Int.not_lt, -Int.not_le, -Nat.not_lt, -Nat.not_le, -List.length_flatMap]
        refine hK _ _ a1 (n + 1 : Nat) (by omega) (fun j h1 h2 => ?_) ?_ ?_
        · rw [Sto.sne _ _ _ _ (by omega), Sto.sne _ _ _ _ (by omega), hMj j h1 h2]
        · rw [Sto.sne _ _ _ _ (by omega), Sto.sne _ _ _ _ (by omega), hMp]
        · exact (hMI.set (fun _ => rfl)).set (fun _ => rfl)
      intro h0 x3 hx3
      rw [if_neg (by omega)] at hK
      generalize getS l a1 = r at hK h0 ⊢
      obtain ⟨u, a2, e2⟩ := r
      simp only at hK h0 ⊢
      have hNm : Ans ctx lcode_named.n [.i .i64 6] (.i .i64 10) := lcode_named.a 6
      simp +contextual (disch := omega) [Nat.add_assoc, Int.add_assoc, if_pos, if_neg, -Int.not_lt, -Int.not_le, -Nat.not_lt, -Nat.not_le, -List.length_flatMap, ansK hNm]
      rw [CallX_op (by rfl)]
      refine openg_w rfl rfl (.inl rfl) ?_
      rw [hfo]
      refine lcode_want.w _ _ ?_
      intro x4 hx4
      have hnn : (if (6 : Nat) = 5 then 5 else 10) = 10 := rfl
      first | rw [hnn] at hK | simp only [if_true] at hK
      have f1 : ∀ j, j < x → j ≠ p → ((((M.set (x2 + 1) (some (.cells [.i .i64 0, .i .i64 0, .ns] false))).set (x2 + 1) (some (.cells [.i .i64 6, .i .i64 0, .ns] false))).set p (some (.cells [.s (bs l), .i .i64 a2, .i .i64 (n + 1)] false))).set (x2 + 1) (some (.cells [.i .i64 6, .i .i64 u, .ns] false))) j = m j := fun j h1 h2 => by
        rw [Sto.sne _ _ _ _ (by omega), Sto.sne _ _ _ _ (by omega), Sto.sne _ _ _ _ (by omega), Sto.sne _ _ _ _ (by omega), hMj j h1 h2]
      have f3 : InnM p x ((((M.set (x2 + 1) (some (.cells [.i .i64 0, .i .i64 0, .ns] false))).set (x2 + 1) (some (.cells [.i .i64 6, .i .i64 0, .ns] false))).set p (some (.cells [.s (bs l), .i .i64 a2, .i .i64 (n + 1)] false))).set (x2 + 1) (some (.cells [.i .i64 6, .i .i64 u, .ns] false))) := (((hMI.set (fun _ => rfl)).set (fun _ => rfl)).set (fun _ => rfl)).set (fun _ => rfl)
      by_cases hu : 10 ≤ u
      · rw [if_pos hu] at hK
        have hu' : ¬ (u : Int) < 10 := by omega
        simp +contextual (disch := omega) [Nat.add_assoc, Int.add_assoc, if_pos, if_neg, -Int.not_lt, -Int.not_le, -Nat.not_lt, -Nat.not_le, -List.length_flatMap, hu']
        exact hK _ _ a2 (n + 1) (by omega) f1 (by simp +contextual (disch := omega) [Nat.add_assoc, Int.add_assoc, if_pos, if_neg, -Int.not_lt, -Int.not_le, -Nat.not_lt, -Nat.not_le, -List.length_flatMap]) f3
      · rw [if_neg hu] at hK
        have hu' : (u : Int) < 10 := by omega
        simp +contextual (disch := omega) [Nat.add_assoc, Int.add_assoc, if_pos, if_neg, -Int.not_lt, -Int.not_le, -Nat.not_lt, -Nat.not_le, -List.length_flatMap, hu', hMx]
        refine un_w ?_
        simp +contextual (disch := omega) [Nat.add_assoc, Int.add_assoc, if_pos, if_neg, -Int.not_lt, -Int.not_le, -Nat.not_lt, -Nat.not_le, -List.length_flatMap, lcode_reader_level.b1, hMx]
        refine hK _ _ _ (by omega) (fun j h1 h2 => ?_) (by simp +contextual (disch := omega) [Nat.add_assoc, Int.add_assoc, if_pos, if_neg, -Int.not_lt, -Int.not_le, -Nat.not_lt, -Nat.not_le, -List.length_flatMap]) (f3.set (fun _ => rfl)) rfl rfl (fun m2 _ dd _ => ⟨[], by simp⟩)
        rw [Sto.sne _ _ _ _ (by omega), f1 j h1 h2]
    · rw [if_neg k1, if_neg (by omega), if_neg k2, if_neg (by omega)] at hK
      simp +contextual (disch := omega) [Nat.add_assoc, Int.add_assoc, if_pos, if_neg, -Int.not_lt, -Int.not_le, -Nat.not_lt, -Nat.not_le, -List.length_flatMap, hM.symm, hMx, k1, k2, k3, k4, k5, k6]
      rw [CallX_op (by rfl)]
      refine openg_w rfl rfl (.inl rfl) ?_
      rw [hfo]
      refine lcode_want.w _ _ ?_
      intro x3 hx3
      simp +contextual (disch := omega) [Nat.add_assoc, Int.add_assoc, if_pos, if_neg, -Int.not_lt, -Int.not_le, -Nat.not_lt, -Nat.not_le, -List.length_flatMap]
      refine hK _ _ a1 (n + 1 : Nat) (by omega) (fun j h1 h2 => ?_) ?_ ?_
      · rw [Sto.sne _ _ _ _ (by omega), Sto.sne _ _ _ _ (by omega), hMj j h1 h2]
      · rw [Sto.sne _ _ _ _ (by omega), Sto.sne _ _ _ _ (by omega), hMp]
      · exact (hMI.set (fun _ => rfl)).set (fun _ => rfl)
end Pi


set_option linter.unusedSimpArgs false
set_option linter.unusedVariables false
namespace Pi
theorem kidsS_le (k : Int) : kidsS k ≤ 2 := by
  unfold kidsS
  split
  · omega
  · split
    · omega
    · split <;> omega
/-- What is right is so, kid by kid. -/
theorem right_kid {l : L} {p q d : Int} (h : rightS l p q d = true) : 0 < d ∧ (l.kids.length : Int) = kidsS l.kind ∧ namedS l p q = true ∧ ∀ k ∈ l.kids, rightS k p q (d - 1) = true := by
  rw [rightS_eq] at h
  simp only [Bool.and_eq_true, decide_eq_true_eq, Bool.not_eq_true', List.any_eq_false, Bool.not_eq_false] at h
  exact ⟨h.1.1.1, h.1.1.2, h.1.2, h.2⟩
theorem right_kind {l : L} {p q d : Int} (h : rightS l p q d = true) : l.kind = 1 ∨ l.kind = 2 ∨ l.kind = 3 ∨ l.kind = 4 ∨ l.kind = 5 ∨ l.kind = 6 := by
  have h2 := (right_kid h).2.1
  unfold kidsS at h2
  split at h2
  · omega
  · split at h2
    · omega
    · split at h2 <;> omega
end Pi

