/- Contracts: terms as bytes (layer 14): what is read; what a term without kids has. -/
import Derived.Test.YtbkkigmlkafeiaaC02k
set_option linter.unusedSimpArgs false
set_option linter.unusedVariables false
namespace Pi
inductive TR where
  | ok (v : Tm) (at' many : Nat)
  | bad (e : Nat)
inductive KR where
  | ok (ks : List Tm) (at' many : Nat)
  | bad (e : Nat)
def KR.pre (vs : List Tm) : KR → KR
  | .ok ks a n => .ok (vs ++ ks) a n
  | .bad e => .bad e
/-- Kids, each below so many binders. -/
def rdKs (f : Nat → Nat → Nat → TR) : List Nat → Nat → Nat → KR
  | [], a, n => .ok [] a n
  | b :: bs, a, n => match f b a n with
    | .bad e => .bad e
    | .ok v a' n' => (rdKs f bs a' n').pre [v]
theorem rdKs_cons (f : Nat → Nat → Nat → TR) (b : Nat) (bs : List Nat) (a n : Nat) : rdKs f (b :: bs) a n = match f b a n with | .bad e => .bad e | .ok v a' n' => (rdKs f bs a' n').pre [v] := rfl
theorem KR.pre_pre (a b : List Tm) (r : KR) : (r.pre b).pre a = r.pre (a ++ b) := by
  cases r with
  | ok ls x n => simp [KR.pre]
  | bad e => rfl
theorem KR.pre_nil (r : KR) : r.pre [] = r := by
  cases r with
  | ok ls x n => simp [KR.pre]
  | bad e => rfl
def KR.tm (k : Nat) : KR → TR
  | .ok ks a n => .ok (.mk k 0 [] ks) a n
  | .bad e => .bad e
def LR.tm (k N n : Nat) : LR → TR
  | .ok ls a => .ok (.mk k N ls []) a n
  | .bad e => .bad e
/-- How many binders more a kind's kids are below. -/
def kidsB (k b : Nat) : List Nat := if k = 4 then [b, b] else if k = 5 ∨ k = 6 then [b, b + 1] else [b, b, b + 1]
/-- What a kind has. -/
def partT (s : List Nat) (f : Nat → Nat → Nat → TR) (k b a n : Nat) : TR :=
  if k = 1 then (if (numT s a (1000 + b)).2.2 ≠ 0 then .bad (numT s a (1000 + b)).2.2 else .ok (.mk 1 (numT s a (1000 + b)).1 [] []) (numT s a (1000 + b)).2.1 n)
  else if k = 2 then (rdLs s 1 a).tm 2 0 n
  else if k = 3 then
    (if (numT s a 20).2.2 ≠ 0 then .bad (numT s a 20).2.2
     else if (numT s (numT s a 20).2.1 6).2.2 ≠ 0 then .bad (numT s (numT s a 20).2.1 6).2.2
     else (rdLs s (numT s (numT s a 20).2.1 6).1 (numT s (numT s a 20).2.1 6).2.1).tm 3 (numT s a 20).1 n)
  else if k = 4 ∨ k = 5 ∨ k = 6 ∨ k = 7 then (rdKs f (kidsB k b) a n).tm k
  else .bad 20
/-- A term that stands at a place. -/
def rdT (s : List Nat) : Nat → Nat → Nat → Nat → TR
  | 0, _, _, _ => .bad 2
  | d + 1, b, a, n => if 600 ≤ n then .bad 2 else
    if (numT s a 1099511627777).2.2 ≠ 0 then .bad (numT s a 1099511627777).2.2
    else partT s (rdT s d) (numT s a 1099511627777).1 b (numT s a 1099511627777).2.1 (n + 1)
/-- What a reading comes to. -/
def TPost : TR → Tm → Int → Int → Int → Prop
  | .ok v a n, v', a', n', e' => v' = v ∧ a' = a ∧ n' = n ∧ e' = 0
  | .bad e, _, _, _, e' => e' = e ∧ e ≠ 0
/-- The same, but for the kind. -/
def TPost0 : TR → Tm → Int → Int → Int → Prop
  | .ok v a n, v', a', n', e' => v' = .mk 0 v.n v.lvls v.kids ∧ a' = a ∧ n' = n ∧ e' = 0
  | .bad e, v', _, _, e' => v'.kind = 0 ∧ e' = e ∧ e ≠ 0
/-- What stands behind a reading. -/
def TK (P : Tm → Int → Int → Int → Prop) (s : List Nat) (p x0 x : Nat) (m : Sto) (d : Nat) (K : CR → Sto → Nat → Prop) : Prop :=
  ∀ cs m' x' v (a n e : Int), P v a n e → x ≤ x' → (∀ j, j < x → j ≠ p → m' j = m j) → m' p = rcT s a n e → InnM p x0 m' → cs.length = 4 → innL (orNew [p] x0) cs = true → FzAt m' x x' d cs (cT v) → K (.ret (.ag cs)) m' x'
theorem numT_bad {s : List Nat} {a most : Nat} : (numT s a most).2.2 ≠ 0 → (numT s a most).1 = 0 := by
  unfold numT
  split
  · intro _; rfl
  · split
    · intro _; rfl
    · intro h; exact absurd rfl h
theorem numT_lt {s : List Nat} {a most : Nat} (h : (numT s a most).2.2 = 0) : (numT s a most).1 < most := by
  unfold numT at h ⊢
  split at h
  · rename_i h1; exact absurd h h1
  · rename_i h1
    rw [if_neg h1] at ⊢
    split at h
    · simp at h
    · rename_i h2
      rw [if_neg h2]
      simp
      omega
theorem cT_of (k n : Int) (ls : List L) (ks : List Tm) : cT (.mk k n ls ks) = [.i .i64 k, .i .i64 n, sV cL ls, sV cT ks] := by rw [cT_at]; rfl
theorem FzT {m : Sto} {lo x d : Nat} {k n : Int} {ls : List L} {ks : List Tm} {B C : V} (hB : Bn m B cL 3 ls lo x 0) (hC : FzAt m lo x d [C] [sV cT ks]) (hd : 1 ≤ d) : FzAt m lo x d [.i .i64 k, .i .i64 n, B, C] (cT (.mk k n ls ks)) := by
  rw [cT_of]
  have z := (FzAt.fr (m := m) (lo := lo) (x := x) (k := d) (cs := [.i .i64 k, .i .i64 n]) (by simp)).app ((hB.at.up (Nat.le_refl x) hd (fun _ _ _ => rfl)).app hC)
  simpa using z
theorem FzN {m : Sto} {lo x d : Nat} : FzAt m lo x d [.ns] [sV cT []] := fun m2 _ dd _ => ⟨[], by simp [sV]⟩
theorem tcode_reader_levels.z {m : Sto} {x p : Nat} {K : CR → Sto → Nat → Prop} (hK : ∀ x', x ≤ x' → K (.ret .ns) m x') :
    Pi.w ctx (envOf [.p p 0, .i .i64 0]) m x [] none none (RetG ctx tcode_reader_levels.c.rs K) tcode_reader_levels.c.code := by
  simp +contextual (disch := omega) [Nat.add_assoc, Int.add_assoc, if_pos, if_neg, -Int.not_lt, -Int.not_le, -Nat.not_lt, -Nat.not_le, -List.length_flatMap, tcode_reader_levels.c]
  refine un_w ?_
  simp +contextual (disch := omega) [Nat.add_assoc, Int.add_assoc, if_pos, if_neg, -Int.not_lt, -Int.not_le, -Nat.not_lt, -Nat.not_le, -List.length_flatMap, tcode_reader_levels.b1]
  exact hK _ (by omega)
theorem tcode_reader_variable.w {m : Sto} {x p x0 : Nat} {K : CR → Sto → Nat → Prop} (s : List Nat) (hl : Byt s) (hn : s.length ≤ 10000) (f : Nat → Nat → Nat → TR) (wi : Int) (b a n d : Nat) (hb : b ≤ 1000) (hp : p < x0) (hx0 : x0 ≤ x) (hm : m p = rcT s a n 0) (hI : InnM p x0 m)
    (hK : TK (TPost0 (partT s f 1 b a n)) s p x0 x m (d + 1) K) :
    w ctx (envOf [.p p 0, .ag [.i .i64 wi, .i .i64 b]]) m x [] none none (RetG ctx tcode_reader_variable.c.rs K) tcode_reader_variable.c.code := by
  have hf : ctx.frz tcode_reader_number.n = false := rfl
  simp +contextual (disch := omega) [Nat.add_assoc, Int.add_assoc, if_pos, if_neg, -Int.not_lt, -Int.not_le, -Nat.not_lt, -Nat.not_le, -List.length_flatMap, tcode_reader_variable.c]
  rw [CallX_op (by rfl)]
  refine openg_w rfl rfl (.inl rfl) ?_
  rw [hf]
  generalize hM : Sto.set _ (x + 1) _ = M
  have hMj : ∀ j, j < x → M j = m j := fun j hj => by rw [← hM, Sto.sne _ _ _ _ (by omega), Sto.sne _ _ _ _ (by omega)]
  have hM1 : M (x + 1) = some (.cells [.i .i64 0, .i .i64 0, .ns, .ns] false) := by rw [← hM, Sto.seq]
  have hMI : InnM p x0 M := by rw [← hM]; exact (hI.set (fun _ => rfl)).set (fun _ => rfl)
  refine tcode_reader_number.w s hl hn a n (1000 + b) ((hMj p (by omega)).trans hm) ?_
  intro m2 x2 k1 k2 k3
  have t1 := (k2 (x + 1) (by omega)).trans hM1
  simp +contextual (disch := omega) [Nat.add_assoc, Int.add_assoc, if_pos, if_neg, -Int.not_lt, -Int.not_le, -Nat.not_lt, -Nat.not_le, -List.length_flatMap, t1]
  refine hK _ _ _ (.mk 0 (numT s a (1000 + b)).1 [] []) (numT s a (1000 + b)).2.1 n (numT s a (1000 + b)).2.2 ?_ (by omega) (fun j h1 h2 => ?_) ?_ ?_ rfl rfl ?_
  · unfold partT
    rw [if_pos rfl]
    split
    · rename_i h; exact ⟨rfl, rfl, h⟩
    · rename_i h; exact ⟨rfl, rfl, rfl, by omega⟩
  · rw [Sto.sne _ _ _ _ (by omega), Sto.sne _ _ _ _ (by omega), k2 j h2, hMj j h1]
  · rw [Sto.sne _ _ _ _ (by omega), Sto.sne _ _ _ _ (by omega), k3]
  · exact (((hMI.of hp k2).set (fun _ => rfl)).set (fun _ => rfl))
  · exact fun m2 _ dd _ => ⟨[], by rw [cT_of]; simp [sV]⟩
theorem tcode_reader_sort.w {m : Sto} {x p x0 : Nat} {K : CR → Sto → Nat → Prop} (s : List Nat) (hl : Byt s) (hn : s.length ≤ 10000) (f : Nat → Nat → Nat → TR) (wi bi : Int) (b a n d : Nat) (hp : p < x0) (hx0 : x0 ≤ x) (hm : m p = rcT s a n 0) (hI : InnM p x0 m)
    (hK : TK (TPost0 (partT s f 2 b a n)) s p x0 x m (d + 1) K) :
    w ctx (envOf [.p p 0, .ag [.i .i64 wi, .i .i64 bi]]) m x [] none none (RetG ctx tcode_reader_sort.c.rs K) tcode_reader_sort.c.code := by
  have hf : ctx.frz tcode_reader_levels.n = false := rfl
  simp +contextual (disch := omega) [Nat.add_assoc, Int.add_assoc, if_pos, if_neg, -Int.not_lt, -Int.not_le, -Nat.not_lt, -Nat.not_le, -List.length_flatMap, tcode_reader_sort.c]
  rw [CallX_op (by rfl)]
  refine openg_w rfl rfl (.inl rfl) ?_
  rw [hf]
  generalize hM : Sto.set _ (x + 1) _ = M
  have hMj : ∀ j, j < x → M j = m j := fun j hj => by rw [← hM, Sto.sne _ _ _ _ (by omega), Sto.sne _ _ _ _ (by omega)]
  have hM1 : M (x + 1) = some (.cells [.i .i64 0, .i .i64 0, .ns, .ns] false) := by rw [← hM, Sto.seq]
  have hMI : InnM p x0 M := by rw [← hM]; exact (hI.set (fun _ => rfl)).set (fun _ => rfl)
  refine tcode_reader_levels.w (x0 := x0) s hl hn a n 1 (by omega) hp (by omega) ((hMj p (by omega)).trans hm) hMI ?_
  intro m2 x2 B vs a' e' hP k1 k2 k3 k4 k5 k6
  have t1 := (k2 (x + 1) (by omega) (by omega)).trans hM1
  simp +contextual (disch := omega) [Nat.add_assoc, Int.add_assoc, if_pos, if_neg, -Int.not_lt, -Int.not_le, -Nat.not_lt, -Nat.not_le, -List.length_flatMap, t1, k4.stor, k4.cells]
  refine hK _ _ _ (.mk 0 0 vs []) a' n e' ?_ (by omega) (fun j h1 h2 => ?_) ?_ ?_ rfl ?_ ?_
  · unfold partT
    rw [if_neg (by omega), if_pos rfl]
    cases hr : rdLs s 1 a with
    | ok ls a2 => rw [hr] at hP; obtain ⟨rfl, rfl, rfl⟩ := hP; exact ⟨rfl, rfl, rfl, rfl⟩
    | bad e => rw [hr] at hP; exact ⟨rfl, hP⟩
  · rw [Sto.sne _ _ _ _ (by omega), Sto.sne _ _ _ _ (by omega), k2 j (by omega) h2, hMj j h1]
  · rw [Sto.sne _ _ _ _ (by omega), Sto.sne _ _ _ _ (by omega), k3]
  · exact ((k5.set (fun _ => by simp [innO, innL, V.inn, k6])).set (fun _ => by simp [innO, innL, V.inn, k6]))
  · simp [innL, V.inn, k6]
  · generalize hM3 : Sto.set _ (x + 1) _ = M3
    refine (FzT (d := d + 1) ((k4.up (m' := M3) (x' := x2 + 4) (by omega) (fun j h1 h2 => ?_))) FzN (by omega)).low (by omega)
    rw [← hM3, Sto.sne _ _ _ _ (by omega), Sto.sne _ _ _ _ (by omega)]
theorem tcode_reader_constant.w {m : Sto} {x p x0 : Nat} {K : CR → Sto → Nat → Prop} (s : List Nat) (hl : Byt s) (hn : s.length ≤ 10000) (f : Nat → Nat → Nat → TR) (wi bi : Int) (b a n d : Nat) (hp : p < x0) (hx0 : x0 ≤ x) (hm : m p = rcT s a n 0) (hI : InnM p x0 m)
    (hK : TK (TPost0 (partT s f 3 b a n)) s p x0 x m (d + 1) K) :
    w ctx (envOf [.p p 0, .ag [.i .i64 wi, .i .i64 bi]]) m x [] none none (RetG ctx tcode_reader_constant.c.rs K) tcode_reader_constant.c.code := by
  have hf : ctx.frz tcode_reader_levels.n = false := rfl
  have hfn : ctx.frz tcode_reader_number.n = false := rfl
  simp +contextual (disch := omega) [Nat.add_assoc, Int.add_assoc, if_pos, if_neg, -Int.not_lt, -Int.not_le, -Nat.not_lt, -Nat.not_le, -List.length_flatMap, tcode_reader_constant.c]
  rw [CallX_op (by rfl)]
  refine openg_w rfl rfl (.inl rfl) ?_
  rw [hfn]
  generalize hM : Sto.set _ (x + 1) _ = M
  have hMj : ∀ j, j < x → M j = m j := fun j hj => by rw [← hM, Sto.sne _ _ _ _ (by omega), Sto.sne _ _ _ _ (by omega)]
  have hM1 : M (x + 1) = some (.cells [.i .i64 0, .i .i64 0, .ns, .ns] false) := by rw [← hM, Sto.seq]
  have hMI : InnM p x0 M := by rw [← hM]; exact (hI.set (fun _ => rfl)).set (fun _ => rfl)
  refine tcode_reader_number.w s hl hn a n 20 ((hMj p (by omega)).trans hm) ?_
  intro m2 x2 k1 k2 k3
  have t1 := (k2 (x + 1) (by omega)).trans hM1
  have hI2 := hMI.of hp k2
  unfold partT at hK
  rw [if_neg (by omega), if_neg (by omega), if_pos rfl] at hK
  generalize numT s a 20 = r at hK k3
  obtain ⟨N, a1, e1⟩ := r
  simp only at hK k3 ⊢
  have he : e1 = 0 ∨ e1 ≠ 0 := by omega
  rcases he with rfl | he
  · rw [if_neg (by omega)] at hK
    simp +contextual (disch := omega) [Nat.add_assoc, Int.add_assoc, if_pos, if_neg, -Int.not_lt, -Int.not_le, -Nat.not_lt, -Nat.not_le, -List.length_flatMap, t1]
    rw [CallX_op (by rfl)]
    refine openg_w rfl rfl (.inl rfl) ?_
    rw [hfn]
    generalize hM3 : Sto.set _ (x + 1) _ = M3
    have hM3j : ∀ j, j ≠ x + 1 → M3 j = m2 j := fun j hj => by rw [← hM3, Sto.sne _ _ _ _ hj]
    have hM31 : M3 (x + 1) = some (.cells [.i .i64 0, .i .i64 N, .ns, .ns] false) := by rw [← hM3, Sto.seq]
    have hM3I : InnM p x0 M3 := by rw [← hM3]; exact hI2.set (fun _ => rfl)
    refine tcode_reader_number.w s hl hn a1 n 6 ((hM3j p (by omega)).trans k3) ?_
    intro m4 x4 q1 q2 q3
    have t4 := (q2 (x + 1) (by omega)).trans hM31
    have hI4 := hM3I.of hp q2
    generalize hr2 : numT s a1 6 = r2 at hK q3 ⊢
    obtain ⟨M, a2, e2⟩ := r2
    simp only at hK q3 ⊢
    have he2 : e2 = 0 ∨ e2 ≠ 0 := by omega
    rcases he2 with rfl | he2
    · rw [if_neg (by omega)] at hK
      have hM5 : M < 6 := by have := numT_lt (s := s) (a := a1) (most := 6) (by rw [hr2]); rw [hr2] at this; exact this
      simp +contextual (disch := omega) [Nat.add_assoc, Int.add_assoc, if_pos, if_neg, -Int.not_lt, -Int.not_le, -Nat.not_lt, -Nat.not_le, -List.length_flatMap, t4]
      rw [CallX_op (by rfl)]
      refine openg_w rfl rfl (.inl rfl) ?_
      rw [hf]
      refine tcode_reader_levels.w (x0 := x0) s hl hn a2 n M (by omega) hp (by omega) q3 hI4 ?_
      intro m6 x6 B vs a' e' hP r1 r2 r3 r4 r5 r6
      have t6 := (r2 (x + 1) (by omega) (by omega)).trans t4
      simp +contextual (disch := omega) [Nat.add_assoc, Int.add_assoc, if_pos, if_neg, -Int.not_lt, -Int.not_le, -Nat.not_lt, -Nat.not_le, -List.length_flatMap, t6, r4.stor, r4.cells]
      refine hK _ _ _ (.mk 0 N vs []) a' n e' ?_ (by omega) (fun j h1 h2 => ?_) ?_ ?_ rfl ?_ ?_
      · cases hr : rdLs s M a2 with
        | ok ls a2 => rw [hr] at hP; obtain ⟨rfl, rfl, rfl⟩ := hP; exact ⟨rfl, rfl, rfl, rfl⟩
        | bad e => rw [hr] at hP; exact ⟨rfl, hP⟩
      · rw [Sto.sne _ _ _ _ (by omega), Sto.sne _ _ _ _ (by omega), r2 j (by omega) h2, q2 j h2, hM3j j (by omega), k2 j h2, hMj j h1]
      · rw [Sto.sne _ _ _ _ (by omega), Sto.sne _ _ _ _ (by omega), r3]
      · exact ((r5.set (fun _ => by simp [innO, innL, V.inn, r6])).set (fun _ => by simp [innO, innL, V.inn, r6]))
      · simp [innL, V.inn, r6]
      · generalize hM7 : Sto.set _ (x + 1) _ = M7
        refine (FzT (d := d + 1) ((r4.up (m' := M7) (x' := x6 + 4) (by omega) (fun j h1 h2 => ?_))) FzN (by omega)).low (by omega)
        rw [← hM7, Sto.sne _ _ _ _ (by omega), Sto.sne _ _ _ _ (by omega)]
    · rw [if_pos he2] at hK
      have hM0 : M = 0 := by have := numT_bad (s := s) (a := a1) (most := 6) (by rw [hr2]; exact he2); rw [hr2] at this; exact this
      subst hM0
      simp +contextual (disch := omega) [Nat.add_assoc, Int.add_assoc, if_pos, if_neg, -Int.not_lt, -Int.not_le, -Nat.not_lt, -Nat.not_le, -List.length_flatMap, t4]
      rw [CallX_op (by rfl)]
      refine openg_w rfl rfl (.inl rfl) ?_
      rw [hf]
      refine tcode_reader_levels.z ?_
      intro x6 r1
      simp +contextual (disch := omega) [Nat.add_assoc, Int.add_assoc, if_pos, if_neg, -Int.not_lt, -Int.not_le, -Nat.not_lt, -Nat.not_le, -List.length_flatMap, t4]
      refine hK _ _ _ (.mk 0 N [] []) a2 n e2 ⟨rfl, rfl, he2⟩ (by omega) (fun j h1 h2 => ?_) ?_ ?_ rfl rfl (FzT Bn.nil FzN (by omega))
      · rw [Sto.sne _ _ _ _ (by omega), Sto.sne _ _ _ _ (by omega), q2 j h2, hM3j j (by omega), k2 j h2, hMj j h1]
      · rw [Sto.sne _ _ _ _ (by omega), Sto.sne _ _ _ _ (by omega), q3]
      · exact ((hI4.set (fun _ => rfl)).set (fun _ => rfl))
  · rw [if_pos he] at hK
    simp +contextual (disch := omega) [Nat.add_assoc, Int.add_assoc, if_pos, if_neg, -Int.not_lt, -Int.not_le, -Nat.not_lt, -Nat.not_le, -List.length_flatMap, t1]
    rw [CallX_op (by rfl)]
    refine openg_w rfl rfl (.inl rfl) ?_
    rw [hfn]
    generalize hM3 : Sto.set _ (x + 1) _ = M3
    have hM3j : ∀ j, j ≠ x + 1 → M3 j = m2 j := fun j hj => by rw [← hM3, Sto.sne _ _ _ _ hj]
    have hM31 : M3 (x + 1) = some (.cells [.i .i64 0, .i .i64 N, .ns, .ns] false) := by rw [← hM3, Sto.seq]
    have hM3I : InnM p x0 M3 := by rw [← hM3]; exact hI2.set (fun _ => rfl)
    have hM3p := (hM3j p (by omega)).trans k3
    refine tcode_reader_number.e s a1 n e1 6 (by omega) hM3p ?_
    intro x4 q1
    simp +contextual (disch := omega) [Nat.add_assoc, Int.add_assoc, if_pos, if_neg, -Int.not_lt, -Int.not_le, -Nat.not_lt, -Nat.not_le, -List.length_flatMap, hM31]
    rw [CallX_op (by rfl)]
    refine openg_w rfl rfl (.inl rfl) ?_
    rw [hf]
    refine tcode_reader_levels.z ?_
    intro x6 r1
    simp +contextual (disch := omega) [Nat.add_assoc, Int.add_assoc, if_pos, if_neg, -Int.not_lt, -Int.not_le, -Nat.not_lt, -Nat.not_le, -List.length_flatMap, hM31]
    refine hK _ _ _ (.mk 0 N [] []) a1 n e1 ⟨rfl, rfl, he⟩ (by omega) (fun j h1 h2 => ?_) ?_ ?_ rfl rfl (FzT Bn.nil FzN (by omega))
    · rw [Sto.sne _ _ _ _ (by omega), Sto.sne _ _ _ _ (by omega), hM3j j (by omega), k2 j h2, hMj j h1]
    · rw [Sto.sne _ _ _ _ (by omega), Sto.sne _ _ _ _ (by omega), hM3p]
    · exact ((hM3I.set (fun _ => rfl)).set (fun _ => rfl))
end Pi


set_option linter.unusedSimpArgs false
set_option linter.unusedVariables false
namespace Pi
/-- What stands behind a reading in a region of open order. -/
def TQ (P : Tm → Int → Int → Int → Prop) (s : List Nat) (p x : Nat) (m : Sto) (d : Nat) (K : QR → Prop) : Prop :=
  ∀ cs ws ids x' v (a n e : Int), P v a n e → x ≤ x' → (∀ j, j < x → j ≠ p → (m.app ws) j = m j) → (∀ j, x' ≤ j → (m.app ws) j = m j) → (m.app ws) p = rcT s a n e → (∀ j, x ≤ j → j < x' → innO (orNew [p] x) ((m.app ws) j) = true) →
      (∀ j ∈ ids, j = p ∨ (x ≤ j ∧ j < x')) → ws.map Prod.fst = ids → cs.length = 4 → innL (orNew [p] x) cs = true → FzAt (m.app ws) x x' d cs (cT v) → K ⟨.ag cs, ws, ids, x', false⟩
theorem term_q {g : Nat} {F : PFun} (hF : ctx.fns g = some F) (hpr : ctx.prim g = none) (ho : ctx.opn g = true) (hq : ctx.frz g = false) (s : List Nat) (p d : Nat) (wi bi : Int) {P : Tm → Int → Int → Int → Prop} {a n : Nat}
    (hw : ∀ {m : Sto} {x : Nat} {K : CR → Sto → Nat → Prop}, p < x → m p = rcT s a n 0 → (∀ j, x ≤ j → m j = none) → TK P s p x x m d K → w ctx (envOf [.p p 0, .ag [.i .i64 wi, .i .i64 bi]]) m x [] none none (RetG ctx F.rs K) F.code)
    {m : Sto} {x : Nat} {K : QR → Prop} (hp : p < x) (hm : m p = rcT s a n 0) (hK : TQ P s p x m d K) : wpQuiet ctx (.fn (.func g) [] []) [.p p 0, .ag [.i .i64 wi, .i .i64 bi]] m x K := by
  unfold rcT at hm
  have hz : freezeL m ([] ++ [.p p 0, .ag [.i .i64 wi, .i .i64 bi]] ++ []) = some ([.rp [.s (bs s), .i .i64 a, .i .i64 n, .i .i64 0], .ag [.i .i64 wi, .i .i64 bi]], [p]) := by
    simp +contextual (disch := omega) [Nat.add_assoc, Int.add_assoc, if_pos, if_neg, -Int.not_lt, -Int.not_le, -Nat.not_lt, -Nat.not_le, -List.length_flatMap, hm]
  have honly : (m.only [p]) p = rcT s a n 0 := by unfold Sto.only; rw [if_pos (by simp), hm]; rfl
  have hnone : ∀ j, x ≤ j → (m.only [p]) j = none := fun j hj => by unfold Sto.only; rw [if_neg (by simp; omega)]
  refine openr_w hF hpr ho hq hz (.inl (by simp)) ?_ ?_
  · simp [reachOK, innL, V.inn, hm, innO, hp]
  refine hw hp honly hnone ?_
  have hxx : ∀ x', x ≤ x' → x + (x' - x) = x' := fun x' h => by omega
  intro cs m' x' u a' n' e' hP h1 h2 h3 h4 h5 h6 h7
  show ReachK [p] x (.ag cs) m' x' K false
  refine ⟨by simpa [V.inn] using h6, fun j hj => ?_, fun j q1 q2 => h4 j q1, fun ws ids w1 w2 w3 => ?_⟩
  · rw [List.mem_singleton.1 hj, h3]; simp [rcT, innO, innL, V.inn]
  · rw [hxx _ h1]
    have s4 : ∀ j, x ≤ j → j < x' → (m.app ws) j = m' j := fun j h1 h2 => by rw [w3, if_pos ⟨h1, h2⟩]
    refine hK cs ws ids x' u a' n' e' hP h1 (fun j h1 h2 => ?_) (fun j h1 => ?_) ?_ (fun j q1 q2 => by rw [s4 j q1 q2]; exact h4 j q1) (fun j hj => by have := w1 j hj; simpa using this) w2 h5 h6 (h7.wide (Nat.le_refl _) (Nat.le_refl _) s4)
    · rw [w3, if_neg (by omega), if_neg (by simpa using h2)]
    · rw [w3, if_neg (by omega), if_neg (by simp; omega)]
    · rw [w3, if_neg (by omega), if_pos (by simp), h3]
set_option maxHeartbeats 2000000 in
theorem tcode_reader_kids.w {m : Sto} {x p x0 : Nat} {K : CR → Sto → Nat → Prop} (s : List Nat) (f : Nat → Nat → Nat → TR) (wi be : Nat) (bd : Int) (bl : List Nat) (a n d k : Nat) (hwi : wi ≤ 1000) (hbe : be ≤ 1000) (hbl : bl.length ≤ 3) (hbi : ∀ i (h : i < bl.length), (bl[i] : Int) = be + if (i : Int) = bd then 1 else 0)
    (hw : ∀ (b a n : Nat) {m : Sto} {x : Nat} {K : CR → Sto → Nat → Prop}, b ∈ bl → p < x → m p = rcT s a n 0 → (∀ j, x ≤ j → m j = none) → TK (TPost (f b a n)) s p x x m d K → w ctx (envOf [.p p 0, .ag [.i .i64 ((wi : Int) + 1), .i .i64 b]]) m x [] none none (RetG ctx tcode_reader_term.c.rs K) tcode_reader_term.c.code)
    (hp : p < x0) (hx0 : x0 ≤ x) (hm : m p = rcT s a n 0) (hI : InnM p x0 m)
    (hK : TK (TPost0 ((rdKs f bl a n).tm k)) s p x0 x m (d + 1) K) :
    w ctx (envOf [.p p 0, .ag [.i .i64 wi, .i .i64 be], .i .i64 bl.length, .i .i64 bd]) m x [] none none (RetG ctx tcode_reader_kids.c.rs K) tcode_reader_kids.c.code := by
  simp +contextual (disch := omega) [Nat.add_assoc, Int.add_assoc, if_pos, if_neg, -Int.not_lt, -Int.not_le, -Nat.not_lt, -Nat.not_le, -List.length_flatMap, tcode_reader_kids.c]
  refine for_w (fun i e' m' x' => ∃ B vs, ∃ (ai ni er : Int), (e' 0 = .p p 0 ∧ e' 3 = .i .i64 bd ∧ e' 5 = .p x 0 ∧ e' 8 = .p (x + 1) 0 ∧ e' 11 = .i .i64 bl.length ∧ e' 12 = .i .i64 i) ∧ x + 2 ≤ x' ∧ m' x = some (.cells [.i .i64 wi, .i .i64 be] false) ∧ m' (x + 1) = some (.cells [.i .i64 0, .i .i64 0, .ns, B] false) ∧
      Bn m' B cT 4 vs (x + 2) x' d ∧ vs.length ≤ i ∧ m' p = rcT s ai ni er ∧ (∀ j, j < x → j ≠ p → m' j = m j) ∧ InnM p x0 m' ∧ B.inn (orNew [p] x0) = true ∧
      ((er = 0 ∧ ∃ a2 n2 : Nat, ai = a2 ∧ ni = n2 ∧ rdKs f bl a n = (rdKs f (bl.drop i) a2 n2).pre vs) ∨ (∃ q : Nat, er = q ∧ q ≠ 0 ∧ rdKs f bl a n = .bad q))) bl.length ?_ ?_ ?_
  · refine ⟨.ns, [], a, n, 0, by simp +contextual (disch := omega) [Nat.add_assoc, Int.add_assoc, if_pos, if_neg, -Int.not_lt, -Int.not_le, -Nat.not_lt, -Nat.not_le, -List.length_flatMap], by omega, ?_, ?_, Bn.nil, by simp, ?_, fun j h1 h2 => ?_, (hI.set (fun _ => rfl)).set (fun _ => rfl), rfl, .inl ⟨rfl, a, n, rfl, rfl, by rw [KR.pre_nil]; rfl⟩⟩
    · simp +contextual (disch := omega) [Nat.add_assoc, Int.add_assoc, if_pos, if_neg, -Int.not_lt, -Int.not_le, -Nat.not_lt, -Nat.not_le, -List.length_flatMap]
    · simp +contextual (disch := omega) [Nat.add_assoc, Int.add_assoc, if_pos, if_neg, -Int.not_lt, -Int.not_le, -Nat.not_lt, -Nat.not_le, -List.length_flatMap]
    · simp +contextual (disch := omega) [Nat.add_assoc, Int.add_assoc, if_pos, if_neg, -Int.not_lt, -Int.not_le, -Nat.not_lt, -Nat.not_le, -List.length_flatMap, hm]
    · simp +contextual (disch := omega) [Nat.add_assoc, Int.add_assoc, if_pos, if_neg, -Int.not_lt, -Int.not_le, -Nat.not_lt, -Nat.not_le, -List.length_flatMap]
  · rintro i e' m' x' hi ⟨B, vs, ai, ni, er, ⟨g0, g3, g5, g8, g11, g12⟩, k1, k2, k3, k4, k5, k6, k7, k8, k9, k10⟩
    have k6' := k6
    unfold rcT at k6'
    rcases k10 with ⟨rfl, a2, n2, rfl, rfl, k10⟩ | ⟨q, rfl, hq, k10⟩
    · have hbii := hbi i hi
      rw [List.drop_eq_getElem_cons hi, rdKs_cons] at k10
      have hmem := List.getElem_mem hi
      generalize bl[i] = b at hbii hmem k10
      have fin : True := trivial
      by_cases hb : (i : Int) = bd
      · rw [if_pos hb] at hbii
        subst hb
        simp +contextual (disch := omega) [Nat.add_assoc, Int.add_assoc, if_pos, if_neg, -Int.not_lt, -Int.not_le, -Nat.not_lt, -Nat.not_le, -List.length_flatMap, tcode_reader_kids.b1, g0, g3, g5, g8, g11, g12, hi, k2, k3, k6']
        rw [CallQ_op (by rfl)]
        generalize hMM : Sto.set _ (x' + 14) _ = M
        have hMj : ∀ j, j < x' → M j = m' j := fun j hj => by rw [← hMM]; simp +contextual (disch := omega) [Nat.add_assoc, Int.add_assoc, if_pos, if_neg, -Int.not_lt, -Int.not_le, -Nat.not_lt, -Nat.not_le, -List.length_flatMap]
        have hMI : InnM p x0 M := by rw [← hMM]; repeat (first | exact k8 | refine InnM.set ?_ (fun _ => rfl))
        clear hMM
        refine term_q tcode_reader_term.f rfl rfl rfl s p d _ _ (fun {m x K} h1 h2 h3 h4 => by have := hw b a2 n2 (K := K) hmem h1 h2 h3 h4; rwa [hbii] at this) (by omega) ((hMj p (by omega)).trans k6) ?_
        intro cs ws ids x2 v a' n' er hP q1 q2 q3 q4 q5 q6 q7 q8 q9 q10
        have hws : ∀ (a : Nat) (b : Option PObj), (a, b) ∈ ws → ¬ a = x + 1 := fun a b h e => by
          have h1 : a ∈ ids := by rw [← q7]; exact List.mem_map.2 ⟨(a, b), h, rfl⟩
          have := q6 a h1
          omega
        have hws2 : ∀ (a : Nat) (b : Option PObj), (a, b) ∈ ws → ¬ a = x' + 14 := fun a b h e => by
          have h1 : a ∈ ids := by rw [← q7]; exact List.mem_map.2 ⟨(a, b), h, rfl⟩
          have := q6 a h1
          omega
        simp +contextual (disch := omega) [Nat.add_assoc, Int.add_assoc, if_pos, if_neg, -Int.not_lt, -Int.not_le, -Nat.not_lt, -Nat.not_le, -List.length_flatMap]
        rw [IfK_pos ⟨hws, by omega⟩, List.take_of_length_le (by omega)]
        generalize hM2 : Sto.set (M.app ws) x2 _ = M2
        have hj2 : ∀ j, j < x' → j ≠ p → M2 j = m' j := fun j h1 h2 => by rw [← hM2, Sto.sne _ _ _ _ (by omega), q2 j (by omega) h2, hMj j h1]
        have hI2 : InnM p x0 M2 := by
          rw [← hM2]
          refine InnM.set (fun j hj => ?_) (fun _ => by simpa [innO] using innL_mono (orNew_up (by omega)) cs q9)
          by_cases hjx : j < x' + 28
          · rw [q2 j (by omega) (by omega)]; exact hMI j hj
          · by_cases hjx' : j < x2
            · exact innO_mono (orNew_up (by omega)) _ (q5 j (by omega) hjx')
            · rw [q3 j (by omega)]; exact hMI j hj
        have hp2 : M2 p = rcT s a' n' er := by rw [← hM2, Sto.sne _ _ _ _ (by omega), q4]
        refine opK_with (fun u ws => InnM p x0 (M2.app ws) ∧ u.inn (orNew [p] x0) = true) (fun u ws h => InnM.apG hI2 k4 (fun j h1 h2 => hj2 j h2 (by omega)) (by omega) (by omega) (innL_mono (orNew_up (by omega)) cs q9) h) ?_
        refine k4.ap v (fun j h1 h2 => hj2 j h2 (by omega)) (by omega) (by omega) (q10.wide (by omega) (by omega) (fun j h1 h2 => by rw [← hM2, Sto.sne _ _ _ _ (by omega)])) q8 rfl (by omega) ?_
        intro B' ws2 M3 z0 z1 z2 z3 z4
        rw [z0] at z4
        have t0 := (z2 x (by omega)).trans ((hj2 x (by omega) (by omega)).trans k2)
        have t1 := (z2 (x + 1) (by omega)).trans ((hj2 (x + 1) (by omega) (by omega)).trans k3)
        simp +contextual (disch := omega) [Nat.add_assoc, Int.add_assoc, if_pos, if_neg, -Int.not_lt, -Int.not_le, -Nat.not_lt, -Nat.not_le, -List.length_flatMap, z0, t0, t1, z1.stor, z1.cells, g0, g3, g5, g8, g11, g12]
        refine ⟨by omega, vs ++ [v], z1.up (by omega) (fun j h1 h2 => Sto.sne _ _ _ _ (by omega)), by simp; omega, a', n', er, ?_, fun j h1 h2 => ?_, z4.1.set (fun _ => by simp [innO, innL, V.inn, z4.2]), z4.2, ?_⟩
        · rw [z2 p (by omega), hp2]
        · rw [z2 j (by omega), hj2 j (by omega) h2, k7 j h1 h2]
        · rw [k10]
          cases hr : f b a2 n2 with
          | ok v2 a3 n3 =>
            rw [hr] at hP
            obtain ⟨rfl, rfl, rfl, rfl⟩ := hP
            exact .inl ⟨rfl, a3, rfl, n3, rfl, by rw [KR.pre_pre]⟩
          | bad q =>
            rw [hr] at hP
            exact .inr ⟨q, hP.1, hP.2, rfl⟩
      · rw [if_neg hb] at hbii
        rw [Int.add_zero] at hbii
        simp +contextual (disch := omega) [Nat.add_assoc, Int.add_assoc, if_pos, if_neg, -Int.not_lt, -Int.not_le, -Nat.not_lt, -Nat.not_le, -List.length_flatMap, tcode_reader_kids.b1, g0, g3, g5, g8, g11, g12, hi, k2, k3, k6', hb]
        rw [CallQ_op (by rfl)]
        generalize hMM : Sto.set _ (x' + 14) _ = M
        have hMj : ∀ j, j < x' → M j = m' j := fun j hj => by rw [← hMM]; simp +contextual (disch := omega) [Nat.add_assoc, Int.add_assoc, if_pos, if_neg, -Int.not_lt, -Int.not_le, -Nat.not_lt, -Nat.not_le, -List.length_flatMap]
        have hMI : InnM p x0 M := by rw [← hMM]; repeat (first | exact k8 | refine InnM.set ?_ (fun _ => rfl))
        clear hMM
        refine term_q tcode_reader_term.f rfl rfl rfl s p d _ _ (fun {m x K} h1 h2 h3 h4 => by have := hw b a2 n2 (K := K) hmem h1 h2 h3 h4; rwa [hbii] at this) (by omega) ((hMj p (by omega)).trans k6) ?_
        intro cs ws ids x2 v a' n' er hP q1 q2 q3 q4 q5 q6 q7 q8 q9 q10
        have hws : ∀ (a : Nat) (b : Option PObj), (a, b) ∈ ws → ¬ a = x + 1 := fun a b h e => by
          have h1 : a ∈ ids := by rw [← q7]; exact List.mem_map.2 ⟨(a, b), h, rfl⟩
          have := q6 a h1
          omega
        have hws2 : ∀ (a : Nat) (b : Option PObj), (a, b) ∈ ws → ¬ a = x' + 14 := fun a b h e => by
          have h1 : a ∈ ids := by rw [← q7]; exact List.mem_map.2 ⟨(a, b), h, rfl⟩
          have := q6 a h1
          omega
        simp +contextual (disch := omega) [Nat.add_assoc, Int.add_assoc, if_pos, if_neg, -Int.not_lt, -Int.not_le, -Nat.not_lt, -Nat.not_le, -List.length_flatMap]
        rw [IfK_pos ⟨hws, by omega⟩, List.take_of_length_le (by omega)]
        generalize hM2 : Sto.set (M.app ws) x2 _ = M2
        have hj2 : ∀ j, j < x' → j ≠ p → M2 j = m' j := fun j h1 h2 => by rw [← hM2, Sto.sne _ _ _ _ (by omega), q2 j (by omega) h2, hMj j h1]
        have hI2 : InnM p x0 M2 := by
          rw [← hM2]
          refine InnM.set (fun j hj => ?_) (fun _ => by simpa [innO] using innL_mono (orNew_up (by omega)) cs q9)
          by_cases hjx : j < x' + 23
          · rw [q2 j (by omega) (by omega)]; exact hMI j hj
          · by_cases hjx' : j < x2
            · exact innO_mono (orNew_up (by omega)) _ (q5 j (by omega) hjx')
            · rw [q3 j (by omega)]; exact hMI j hj
        have hp2 : M2 p = rcT s a' n' er := by rw [← hM2, Sto.sne _ _ _ _ (by omega), q4]
        refine opK_with (fun u ws => InnM p x0 (M2.app ws) ∧ u.inn (orNew [p] x0) = true) (fun u ws h => InnM.apG hI2 k4 (fun j h1 h2 => hj2 j h2 (by omega)) (by omega) (by omega) (innL_mono (orNew_up (by omega)) cs q9) h) ?_
        refine k4.ap v (fun j h1 h2 => hj2 j h2 (by omega)) (by omega) (by omega) (q10.wide (by omega) (by omega) (fun j h1 h2 => by rw [← hM2, Sto.sne _ _ _ _ (by omega)])) q8 rfl (by omega) ?_
        intro B' ws2 M3 z0 z1 z2 z3 z4
        rw [z0] at z4
        have t0 := (z2 x (by omega)).trans ((hj2 x (by omega) (by omega)).trans k2)
        have t1 := (z2 (x + 1) (by omega)).trans ((hj2 (x + 1) (by omega) (by omega)).trans k3)
        simp +contextual (disch := omega) [Nat.add_assoc, Int.add_assoc, if_pos, if_neg, -Int.not_lt, -Int.not_le, -Nat.not_lt, -Nat.not_le, -List.length_flatMap, z0, t0, t1, z1.stor, z1.cells, g0, g3, g5, g8, g11, g12]
        refine ⟨by omega, vs ++ [v], z1.up (by omega) (fun j h1 h2 => Sto.sne _ _ _ _ (by omega)), by simp; omega, a', n', er, ?_, fun j h1 h2 => ?_, z4.1.set (fun _ => by simp [innO, innL, V.inn, z4.2]), z4.2, ?_⟩
        · rw [z2 p (by omega), hp2]
        · rw [z2 j (by omega), hj2 j (by omega) h2, k7 j h1 h2]
        · rw [k10]
          cases hr : f b a2 n2 with
          | ok v2 a3 n3 =>
            rw [hr] at hP
            obtain ⟨rfl, rfl, rfl, rfl⟩ := hP
            exact .inl ⟨rfl, a3, rfl, n3, rfl, by rw [KR.pre_pre]⟩
          | bad q =>
            rw [hr] at hP
            exact .inr ⟨q, hP.1, hP.2, rfl⟩
    · have hq' : ¬ (q : Int) = 0 := by omega
      simp +contextual (disch := omega) [Nat.add_assoc, Int.add_assoc, if_pos, if_neg, -Int.not_lt, -Int.not_le, -Nat.not_lt, -Nat.not_le, -List.length_flatMap, tcode_reader_kids.b1, g0, g3, g5, g8, g11, g12, hi, k2, k3, k6', hq', hq]
      refine hK _ _ _ (.mk 0 0 [] vs) ai ni q ?_ (by omega) (fun j h1 h2 => ?_) ?_ (k8.set (fun _ => by simp [innO, innL, V.inn, k9])) rfl (by simp [innL, V.inn, k9]) ?_
      · rw [k10]; exact ⟨rfl, rfl, hq⟩
      · rw [Sto.sne _ _ _ _ (by omega), k7 j h1 h2]
      · rw [Sto.sne _ _ _ _ (by omega), k6]
      · exact (FzT Bn.nil (k4.up (m' := m'.set (x + 1) _) (x' := x' + 10) (by omega) (fun j h1 h2 => by rw [Sto.sne _ _ _ _ (by omega)])).at (by omega)).low (by omega)
  · rintro e' m' x' ⟨B, vs, ai, ni, er, ⟨g0, g3, g5, g8, g11, g12⟩, k1, k2, k3, k4, k5, k6, k7, k8, k9, k10⟩
    simp +contextual (disch := omega) [Nat.add_assoc, Int.add_assoc, if_pos, if_neg, -Int.not_lt, -Int.not_le, -Nat.not_lt, -Nat.not_le, -List.length_flatMap, tcode_reader_kids.b1, g0, g3, g5, g8, g11, g12, k3]
    refine hK _ _ _ (.mk 0 0 [] vs) ai ni er ?_ (by omega) (fun j h1 h2 => ?_) ?_ (k8.set (fun _ => by simp [innO, innL, V.inn, k9])) rfl (by simp [innL, V.inn, k9]) ?_
    · rcases k10 with ⟨rfl, a2, n2, rfl, rfl, k10⟩ | ⟨q, rfl, hq, k10⟩
      · rw [k10, List.drop_length]
        simp [rdKs, KR.pre, KR.tm, TPost0]
      · rw [k10]; exact ⟨rfl, rfl, hq⟩
    · rw [Sto.sne _ _ _ _ (by omega), k7 j h1 h2]
    · rw [Sto.sne _ _ _ _ (by omega), k6]
    · exact (FzT Bn.nil (k4.up (m' := m'.set (x + 1) _) (x' := x' + 3) (by omega) (fun j h1 h2 => by rw [Sto.sne _ _ _ _ (by omega)])).at (by omega)).low (by omega)
end Pi


set_option linter.unusedSimpArgs false
set_option linter.unusedVariables false
namespace Pi
def lvlsT (l : List Nat) : Nat → Nat → List L × Nat
  | 0, i => ([], i)
  | c + 1, i => ((mkS l 3 2 2 i).1 :: (lvlsT l c (mkS l 3 2 2 i).2).1, (lvlsT l c (mkS l 3 2 2 i).2).2)
def leafT (l : List Nat) (v k i : Nat) : Tm × Nat :=
  if k < 2 then (.mk 1 (pickS l i v : Nat) [] [], i + 1)
  else if k < 3 then (.mk 2 0 [(mkS l 3 2 3 i).1] [], (mkS l 3 2 3 i).2)
  else (.mk 3 (pickS l i 4 : Nat) (lvlsT l (pickS l (i + 1) 3) (i + 2)).1 [], (lvlsT l (pickS l (i + 1) 3) (i + 2)).2)
/-- A term by numbers, and how many of them it took. -/
def mkT (l : List Nat) : Nat → Nat → Nat → Tm × Nat
  | 0, v, i => leafT l v (pickS l i 12 % 4) (i + 1)
  | d + 1, v, i =>
    if pickS l i 12 < 4 then leafT l v (pickS l i 12) (i + 1)
    else
      let r := mkT l d v (i + 1)
      if pickS l i 12 < 7 then (.mk 4 0 [] [r.1, (mkT l d v r.2).1], (mkT l d v r.2).2)
      else if pickS l i 12 < 9 then (.mk 5 0 [] [r.1, (mkT l d (v + 1) r.2).1], (mkT l d (v + 1) r.2).2)
      else if pickS l i 12 < 11 then (.mk 6 0 [] [r.1, (mkT l d (v + 1) r.2).1], (mkT l d (v + 1) r.2).2)
      else
        let s := mkT l d v r.2
        (.mk 7 0 [] [r.1, s.1, (mkT l d (v + 1) s.2).1], (mkT l d (v + 1) s.2).2)
theorem lvlsT_bd (l : List Nat) : ∀ c i, i ≤ (lvlsT l c i).2 ∧ (lvlsT l c i).2 ≤ i + 64 * c ∧ (lvlsT l c i).1.length = c
  | 0, i => by simp [lvlsT]
  | c + 1, i => by
    have h1 := mkS_bd l 3 2 2 i
    have h2 := lvlsT_bd l c (mkS l 3 2 2 i).2
    simp only [lvlsT, List.length_cons]
    omega
theorem leafT_bd (l : List Nat) (v k i : Nat) : i ≤ (leafT l v k i).2 ∧ (leafT l v k i).2 ≤ i + 260 := by
  have h1 := mkS_bd l 3 2 3 i
  have h2 := lvlsT_bd l (pickS l (i + 1) 3) (i + 2)
  have h3 := pickS_lt l (i + 1) 3 (by omega)
  unfold leafT
  split
  · simp only; omega
  · split
    · simp only; omega
    · simp only; omega
theorem mkT_bd (l : List Nat) : ∀ d v i, i ≤ (mkT l d v i).2 ∧ (mkT l d v i).2 ≤ i + 300 * 4 ^ d
  | 0, v, i => by have := leafT_bd l v (pickS l i 12 % 4) (i + 1); simp only [mkT]; omega
  | d + 1, v, i => by
    have h0 := leafT_bd l v (pickS l i 12) (i + 1)
    have h1 := mkT_bd l d v (i + 1)
    have h2 := mkT_bd l d v (mkT l d v (i + 1)).2
    have h3 := mkT_bd l d (v + 1) (mkT l d v (i + 1)).2
    have h4 := mkT_bd l d (v + 1) (mkT l d v (mkT l d v (i + 1)).2).2
    have hp : 4 ^ (d + 1) = 4 * 4 ^ d := by rw [Nat.pow_succ, Nat.mul_comm]
    have hq : 1 ≤ 4 ^ d := Nat.one_le_pow _ _ (by omega)
    simp only [mkT]
    rw [hp]
    generalize 4 ^ d = P at *
    split
    · omega
    · split
      · simp only; omega
      · split
        · simp only; omega
        · split
          · simp only; omega
          · simp only; omega
theorem level_q (l : List Nat) (hb : Byt l) (p q : Nat) (hp : p ≤ 256) (hq : q ≤ 256) (a d : Nat) (hd : d ≤ 10) (i : Nat) {m : Sto} {x : Nat} {K : QR → Prop} (hi : i + 4 ^ (d + 2) ≤ 1000000000) (ha : a < x) (hm : m a = some (.cells [sV cU l, .i .i64 i] false))
    (hK : ∀ cs ws ids x', cs.length = 3 → (m.app ws) a = some (.cells [sV cU l, .i .i64 ((mkS l p q (d + 1) i).2 : Nat)] false) → (∀ j, j < x → j ≠ a → (m.app ws) j = m j) → (∀ j, x' ≤ j → (m.app ws) j = m j) → x ≤ x' → FzAt (m.app ws) x x' (d + 2) cs (cL (mkS l p q (d + 1) i).1) → (∀ j ∈ ids, j = a ∨ (x ≤ j ∧ j < x')) → ws.map Prod.fst = ids → K ⟨.ag cs, ws, ids, x', false⟩) :
    wpQuiet ctx (.fn (.func law02_Maker_Level.n) [] []) [.p a 0, .i .i64 p, .i .i64 q, .i .i64 ((d : Int) + 1)] m x K := by
  have hz : freezeL m ([] ++ [.p a 0, .i .i64 p, .i .i64 q, .i .i64 ((d : Int) + 1)] ++ []) = some ([.rp [sV cU l, .i .i64 i], .i .i64 p, .i .i64 q, .i .i64 ((d : Int) + 1)], [a]) := by
    simp +contextual (disch := omega) [Nat.add_assoc, Int.add_assoc, if_pos, if_neg, -Int.not_lt, -Int.not_le, -Nat.not_lt, -Nat.not_le, -List.length_flatMap, hm]
  have honly : (m.only [a]) a = some (.cells [sV cU l, .i .i64 i] false) := by unfold Sto.only; rw [if_pos (by simp), hm]
  have hnone : ∀ j, x ≤ j → (m.only [a]) j = none := fun j hj => by unfold Sto.only; rw [if_neg (by simp; omega)]
  refine openr_w law02_Maker_Level.f rfl rfl rfl hz (.inl (by simp)) ?_ ?_
  · simp [reachOK, innL, V.inn, hm, innO, ha, innL_sV]
  refine law02_Maker_Level.w l hb p q hp hq a d hd i (x0 := x) (Nat.le_refl _) ha (InnM.none hnone) hi ha honly ?_
  have hxx : ∀ x', x ≤ x' → x + (x' - x) = x' := fun x' h => by omega
  intro cs m' x' h1 h2 h3 h4 h5 h6 h7
  show ReachK [a] x (.ag cs) m' x' K false
  refine ⟨by simpa [V.inn] using h7, fun j hj => ?_, fun j q1 q2 => h6 j q1, fun ws ids w1 w2 w3 => ?_⟩
  · rw [List.mem_singleton.1 hj, h2]; simp [innO, innL, V.inn, innL_sV]
  · rw [hxx _ h4]
    have s4 : ∀ j, x ≤ j → j < x' → (m.app ws) j = m' j := fun j h1 h2 => by rw [w3, if_pos ⟨h1, h2⟩]
    refine hK cs ws ids x' h1 ?_ (fun j h1 h2 => ?_) (fun j h1 => ?_) h4 (h5.wide (Nat.le_refl _) (Nat.le_refl _) s4) (fun j hj => by have := w1 j hj; simpa using this) w2
    · rw [w3, if_neg (by omega), if_pos (by simp), h2]
    · rw [w3, if_neg (by omega), if_neg (by simpa using h2)]
    · rw [w3, if_neg (by omega), if_neg (by simp; omega)]
/-- What stands behind a maker's term. -/
def MadeT (l : List Nat) (a x : Nat) (m : Sto) (r : Tm × Nat) (K : CR → Sto → Nat → Prop) : Prop :=
  ∀ cs m' x', cs.length = 4 → m' a = some (.cells [sV cU l, .i .i64 (r.2 : Nat)] false) → (∀ j, j < x → j ≠ a → m' j = m j) → x ≤ x' → FzAt m' x x' 5 cs (cT r.1) → K (.ret (.ag cs)) m' x'
theorem law13_Var.a (n : Int) : Ans ctx law13_Var.n [.i .i64 n] (.ag (cT (.mk 1 n [] []))) := by
  refine ans law13_Var.f ?_
  simp +contextual (disch := omega) [Nat.add_assoc, Int.add_assoc, if_pos, if_neg, -Int.not_lt, -Int.not_le, -Nat.not_lt, -Nat.not_le, -List.length_flatMap, law13_Var.c]
  rw [cT_of]
  simp [sV]
theorem law13_Sort.a (v : L) : Ans ctx law13_Sort.n [.ag (cL v)] (.ag (cT (.mk 2 0 [v] []))) := by
  refine ans law13_Sort.f ?_
  simp +contextual (disch := omega) [Nat.add_assoc, Int.add_assoc, if_pos, if_neg, -Int.not_lt, -Int.not_le, -Nat.not_lt, -Nat.not_le, -List.length_flatMap, law13_Sort.c]
  rw [cT_of]
  simp [sV]
theorem law13_Bind.a (k : Int) (ks : List Tm) (h : ks.length ≤ 9223372036854775807) : Ans ctx law13_Bind.n [.i .i64 k, sV cT ks] (.ag (cT (.mk k 0 [] ks))) := by
  refine ans law13_Bind.f ?_
  simp +contextual (disch := omega) [Nat.add_assoc, Int.add_assoc, if_pos, if_neg, -Int.not_lt, -Int.not_le, -Nat.not_lt, -Nat.not_le, -List.length_flatMap, law13_Bind.c]
  rw [cT_of]
  simp [sV]
end Pi

