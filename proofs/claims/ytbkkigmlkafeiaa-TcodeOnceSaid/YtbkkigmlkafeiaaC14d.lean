/- Contracts: terms as bytes (layer 14): the reader's terms. -/
import Derived.Test.YtbkkigmlkafeiaaC03d
set_option linter.unusedSimpArgs false
set_option linter.unusedVariables false
namespace Pi
/-- What reads kids reads so. -/
def TermW (s : List Nat) (f : Nat → Nat → Nat → TR) (p d wi : Nat) (bl : List Nat) : Prop :=
  ∀ (b a n : Nat) {m : Sto} {x : Nat} {K : CR → Sto → Nat → Prop}, b ∈ bl → p < x → m p = rcT s a n 0 → (∀ j, x ≤ j → m j = none) → TK (TPost (f b a n)) s p x x m d K → w ctx (envOf [.p p 0, .ag [.i .i64 ((wi : Int) + 1), .i .i64 b]]) m x [] none none (RetG ctx tcode_reader_term.c.rs K) tcode_reader_term.c.code
theorem len4 {α : Type} : ∀ {l : List α}, l.length = 4 → ∃ a b c d, l = [a, b, c, d]
  | [a, b, c, d], _ => ⟨a, b, c, d, rfl⟩
  | [], h => by simp at h
  | [_], h => by simp at h
  | [_, _], h => by simp at h
  | [_, _, _], h => by simp at h
  | _ :: _ :: _ :: _ :: _ :: _, h => by simp at h
theorem frzL_un2 {D : Nat → Option (Bool × List V × List V × List Nat)} {v : V} {r out : List V} {ids : List Nat} (h : frzL D (v :: r) = some (out, ids)) : ∃ u z i j, out = u :: z ∧ frzW D v = some (u, i) ∧ frzL D r = some (z, j) := by
  rw [frzL_cons] at h
  cases h1 : frzW D v with
  | none => rw [h1] at h; simp at h
  | some p =>
    cases h2 : frzL D r with
    | none => rw [h1, h2] at h; simp at h
    | some q =>
      rw [h1, h2] at h
      simp at h
      exact ⟨p.1, q.1, p.2, q.2, h.1.symm, rfl, rfl⟩
theorem FzAt.tl {m : Sto} {lo x k : Nat} {v u : V} {r z : List V} (h : FzAt m lo x k (v :: r) (u :: z)) : FzAt m lo x k r z := by
  intro m' hm d hd
  obtain ⟨ids, h0⟩ := h m' hm d hd
  obtain ⟨u', z', i, j, e, h1, h2⟩ := frzL_un2 h0
  injection e with e1 e2
  exact ⟨j, by rw [h2, e2]⟩
theorem tcode_reader_apply.w {m : Sto} {x p x0 : Nat} {K : CR → Sto → Nat → Prop} (s : List Nat) (f : Nat → Nat → Nat → TR) (wi be : Nat) (a n d k : Nat) (hwi : wi ≤ 1000) (hbe : be ≤ 999)
    (hw : TermW s f p d wi [be, be]) (hp : p < x0) (hx0 : x0 ≤ x) (hm : m p = rcT s a n 0) (hI : InnM p x0 m) (hK : TK (TPost0 ((rdKs f [be, be] a n).tm k)) s p x0 x m (d + 1) K) :
    Pi.w ctx (envOf [.p p 0, .ag [.i .i64 wi, .i .i64 be]]) m x [] none none (RetG ctx tcode_reader_apply.c.rs K) tcode_reader_apply.c.code := by
  have hf : ctx.frz tcode_reader_kids.n = false := rfl
  simp +contextual (disch := omega) [Nat.add_assoc, Int.add_assoc, if_pos, if_neg, -Int.not_lt, -Int.not_le, -Nat.not_lt, -Nat.not_le, -List.length_flatMap, tcode_reader_apply.c]
  rw [CallX_op (by rfl)]
  refine openg_w rfl rfl (.inl rfl) ?_
  rw [hf]
  generalize hM : Sto.set _ (x + 1) _ = M
  have hMj : ∀ j, j < x → M j = m j := fun j hj => by rw [← hM, Sto.sne _ _ _ _ (by omega), Sto.sne _ _ _ _ (by omega)]
  have hM1 : M (x + 1) = some (.cells [.i .i64 0, .i .i64 0, .ns, .ns] false) := by rw [← hM, Sto.seq]
  have hMI : InnM p x0 M := by rw [← hM]; exact (hI.set (fun _ => rfl)).set (fun _ => rfl)
  refine tcode_reader_kids.w (x0 := x0) s f wi be (-1) [be, be] a n d k hwi (by omega) (by simp) (fun i h => ?_) (fun b a n {m x K} => hw b a n) hp (by omega) ((hMj p (by omega)).trans hm) hMI ?_
  · have : i = 0 ∨ i = 1 := by simp at h; omega
    rcases this with rfl | rfl <;> simp
  intro cs m' x' v a' n' e' hP h1 h2 h3 h4 h5 h6 h7
  have t1 := (h2 (x + 1) (by omega) (by omega)).trans hM1
  simp +contextual (disch := omega) [Nat.add_assoc, Int.add_assoc, if_pos, if_neg, -Int.not_lt, -Int.not_le, -Nat.not_lt, -Nat.not_le, -List.length_flatMap, t1, h5]
  rw [List.take_of_length_le (by omega)]
  refine hK cs _ _ v a' n' e' hP (by omega) (fun j q1 q2 => ?_) ?_ ?_ h5 h6 (h7.wide (by omega) (by omega) (fun j q1 q2 => Sto.sne _ _ _ _ (by omega)))
  · rw [Sto.sne _ _ _ _ (by omega), h2 j (by omega) q2, hMj j q1]
  · rw [Sto.sne _ _ _ _ (by omega), h3]
  · exact h4.set (fun _ => by simpa [innO] using h6)
theorem tcode_reader_bind.w {m : Sto} {x p x0 : Nat} {K : CR → Sto → Nat → Prop} (s : List Nat) (f : Nat → Nat → Nat → TR) (wi be : Nat) (a n d k : Nat) (hwi : wi ≤ 1000) (hbe : be ≤ 999)
    (hw : TermW s f p d wi [be, be + 1]) (hp : p < x0) (hx0 : x0 ≤ x) (hm : m p = rcT s a n 0) (hI : InnM p x0 m) (hK : TK (TPost0 ((rdKs f [be, be + 1] a n).tm k)) s p x0 x m (d + 1) K) :
    Pi.w ctx (envOf [.p p 0, .ag [.i .i64 wi, .i .i64 be]]) m x [] none none (RetG ctx tcode_reader_bind.c.rs K) tcode_reader_bind.c.code := by
  have hf : ctx.frz tcode_reader_kids.n = false := rfl
  simp +contextual (disch := omega) [Nat.add_assoc, Int.add_assoc, if_pos, if_neg, -Int.not_lt, -Int.not_le, -Nat.not_lt, -Nat.not_le, -List.length_flatMap, tcode_reader_bind.c]
  rw [CallX_op (by rfl)]
  refine openg_w rfl rfl (.inl rfl) ?_
  rw [hf]
  generalize hM : Sto.set _ (x + 1) _ = M
  have hMj : ∀ j, j < x → M j = m j := fun j hj => by rw [← hM, Sto.sne _ _ _ _ (by omega), Sto.sne _ _ _ _ (by omega)]
  have hM1 : M (x + 1) = some (.cells [.i .i64 0, .i .i64 0, .ns, .ns] false) := by rw [← hM, Sto.seq]
  have hMI : InnM p x0 M := by rw [← hM]; exact (hI.set (fun _ => rfl)).set (fun _ => rfl)
  refine tcode_reader_kids.w (x0 := x0) s f wi be (1) [be, be + 1] a n d k hwi (by omega) (by simp) (fun i h => ?_) (fun b a n {m x K} => hw b a n) hp (by omega) ((hMj p (by omega)).trans hm) hMI ?_
  · have : i = 0 ∨ i = 1 := by simp at h; omega
    rcases this with rfl | rfl <;> simp
  intro cs m' x' v a' n' e' hP h1 h2 h3 h4 h5 h6 h7
  have t1 := (h2 (x + 1) (by omega) (by omega)).trans hM1
  simp +contextual (disch := omega) [Nat.add_assoc, Int.add_assoc, if_pos, if_neg, -Int.not_lt, -Int.not_le, -Nat.not_lt, -Nat.not_le, -List.length_flatMap, t1, h5]
  rw [List.take_of_length_le (by omega)]
  refine hK cs _ _ v a' n' e' hP (by omega) (fun j q1 q2 => ?_) ?_ ?_ h5 h6 (h7.wide (by omega) (by omega) (fun j q1 q2 => Sto.sne _ _ _ _ (by omega)))
  · rw [Sto.sne _ _ _ _ (by omega), h2 j (by omega) q2, hMj j q1]
  · rw [Sto.sne _ _ _ _ (by omega), h3]
  · exact h4.set (fun _ => by simpa [innO] using h6)
theorem tcode_reader_let.w {m : Sto} {x p x0 : Nat} {K : CR → Sto → Nat → Prop} (s : List Nat) (f : Nat → Nat → Nat → TR) (wi be : Nat) (a n d k : Nat) (hwi : wi ≤ 1000) (hbe : be ≤ 999)
    (hw : TermW s f p d wi [be, be, be + 1]) (hp : p < x0) (hx0 : x0 ≤ x) (hm : m p = rcT s a n 0) (hI : InnM p x0 m) (hK : TK (TPost0 ((rdKs f [be, be, be + 1] a n).tm k)) s p x0 x m (d + 1) K) :
    Pi.w ctx (envOf [.p p 0, .ag [.i .i64 wi, .i .i64 be]]) m x [] none none (RetG ctx tcode_reader_let.c.rs K) tcode_reader_let.c.code := by
  have hf : ctx.frz tcode_reader_kids.n = false := rfl
  simp +contextual (disch := omega) [Nat.add_assoc, Int.add_assoc, if_pos, if_neg, -Int.not_lt, -Int.not_le, -Nat.not_lt, -Nat.not_le, -List.length_flatMap, tcode_reader_let.c]
  rw [CallX_op (by rfl)]
  refine openg_w rfl rfl (.inl rfl) ?_
  rw [hf]
  generalize hM : Sto.set _ (x + 1) _ = M
  have hMj : ∀ j, j < x → M j = m j := fun j hj => by rw [← hM, Sto.sne _ _ _ _ (by omega), Sto.sne _ _ _ _ (by omega)]
  have hM1 : M (x + 1) = some (.cells [.i .i64 0, .i .i64 0, .ns, .ns] false) := by rw [← hM, Sto.seq]
  have hMI : InnM p x0 M := by rw [← hM]; exact (hI.set (fun _ => rfl)).set (fun _ => rfl)
  refine tcode_reader_kids.w (x0 := x0) s f wi be (2) [be, be, be + 1] a n d k hwi (by omega) (by simp) (fun i h => ?_) (fun b a n {m x K} => hw b a n) hp (by omega) ((hMj p (by omega)).trans hm) hMI ?_
  · have : i = 0 ∨ i = 1 ∨ i = 2 := by simp at h; omega
    rcases this with rfl | rfl | rfl <;> simp
  intro cs m' x' v a' n' e' hP h1 h2 h3 h4 h5 h6 h7
  have t1 := (h2 (x + 1) (by omega) (by omega)).trans hM1
  simp +contextual (disch := omega) [Nat.add_assoc, Int.add_assoc, if_pos, if_neg, -Int.not_lt, -Int.not_le, -Nat.not_lt, -Nat.not_le, -List.length_flatMap, t1, h5]
  rw [List.take_of_length_le (by omega)]
  refine hK cs _ _ v a' n' e' hP (by omega) (fun j q1 q2 => ?_) ?_ ?_ h5 h6 (h7.wide (by omega) (by omega) (fun j q1 q2 => Sto.sne _ _ _ _ (by omega)))
  · rw [Sto.sne _ _ _ _ (by omega), h2 j (by omega) q2, hMj j q1]
  · rw [Sto.sne _ _ _ _ (by omega), h3]
  · exact h4.set (fun _ => by simpa [innO] using h6)
def readersM : V := .rm [.i .i64 1, .i .i64 2, .i .i64 3, .i .i64 4, .i .i64 5, .i .i64 6, .i .i64 7]
  [.fn (.func tcode_reader_variable.n) [] [], .fn (.func tcode_reader_sort.n) [] [], .fn (.func tcode_reader_constant.n) [] [], .fn (.func tcode_reader_apply.n) [] [],
   .fn (.func tcode_reader_bind.n) [] [], .fn (.func tcode_reader_bind.n) [] [], .fn (.func tcode_reader_let.n) [] []]
set_option maxRecDepth 100000 in
theorem tcode_readers.a : Ans ctx tcode_readers.n [] readersM := ans_told (n := 300) (by kernel_rfl)
def readF (k : Int) : V := if k = 1 then .fn (.func tcode_reader_variable.n) [] [] else if k = 2 then .fn (.func tcode_reader_sort.n) [] [] else if k = 3 then .fn (.func tcode_reader_constant.n) [] []
  else if k = 4 then .fn (.func tcode_reader_apply.n) [] [] else if k = 5 then .fn (.func tcode_reader_bind.n) [] [] else if k = 6 then .fn (.func tcode_reader_bind.n) [] [] else if k = 7 then .fn (.func tcode_reader_let.n) [] [] else .nf
theorem readers_lk (m : Sto) (k : Int) : lkV m (.one .i) .nf readersM (.i .i64 k) true = some (.tu [readF k, .b (decide (1 ≤ k) && decide (k ≤ 7))], []) := by
  have h : k = 1 ∨ k = 2 ∨ k = 3 ∨ k = 4 ∨ k = 5 ∨ k = 6 ∨ k = 7 ∨ (k ≠ 1 ∧ k ≠ 2 ∧ k ≠ 3 ∧ k ≠ 4 ∧ k ≠ 5 ∧ k ≠ 6 ∧ k ≠ 7) := by omega
  unfold readersM
  rcases h with rfl | rfl | rfl | rfl | rfl | rfl | rfl | ⟨h1, h2, h3, h4, h5, h6, h7⟩
  all_goals simp [readF]
  all_goals simp [*]
  omega
theorem partT_kind {s : List Nat} {f : Nat → Nat → Nat → TR} {k b a n : Nat} {v : Tm} {a' n' : Nat} (h : partT s f k b a n = .ok v a' n') : v.kind = k := by
  unfold partT at h
  split at h
  · rename_i hk; subst hk
    split at h
    · cases h
    · cases h; rfl
  split at h
  · rename_i hk; subst hk
    cases hr : rdLs s 1 a with
    | ok ls a2 => rw [hr] at h; cases h; rfl
    | bad e => rw [hr] at h; cases h
  split at h
  · rename_i hk; subst hk
    split at h
    · cases h
    split at h
    · cases h
    generalize rdLs s _ _ = r at h
    cases r with
    | ok ls a2 => cases h; rfl
    | bad e => cases h
  split at h
  · generalize rdKs f _ _ _ = r at h
    cases r with
    | ok ls a2 => cases h; rfl
    | bad e => cases h
  · cases h
theorem TPost0.up {s : List Nat} {f : Nat → Nat → Nat → TR} {k b a n : Nat} {v : Tm} {a' n' e' : Int} (h : TPost0 (partT s f k b a n) v a' n' e') : TPost (partT s f k b a n) (.mk k v.n v.lvls v.kids) a' n' e' := by
  cases hr : partT s f k b a n with
  | ok v2 a5 n5 =>
    rw [hr] at h
    obtain ⟨rfl, rfl, rfl, rfl⟩ := h
    have := partT_kind hr
    cases v2 with
    | mk k2 b2 c2 d2 =>
      simp only [Tm.kind_mk] at this
      subst this
      exact ⟨rfl, rfl, rfl, rfl⟩
  | bad e =>
    rw [hr] at h
    exact ⟨h.2.1, h.2.2⟩
theorem FzAt.kind {m : Sto} {lo x d : Nat} {c0 c1 c2 c3 : V} {v : Tm} (k : Int) (h : FzAt m lo x d [c0, c1, c2, c3] (cT v)) : FzAt m lo x d [.i .i64 k, c1, c2, c3] (cT (.mk k v.n v.lvls v.kids)) := by
  rw [cT_at] at h
  rw [cT_of]
  have z := (FzAt.fr (m := m) (lo := lo) (x := x) (k := d) (cs := [.i .i64 k]) (by simp)).app h.tl
  simpa using z
set_option maxHeartbeats 4000000 in
theorem tcode_reader_term.w (s : List Nat) (hl : Byt s) (hn : s.length ≤ 10000) (p : Nat) : ∀ (d : Nat), d ≤ 30 → ∀ (be a n : Nat) {m : Sto} {x : Nat} {K : CR → Sto → Nat → Prop}, be + d ≤ 30 → p < x → m p = rcT s a n 0 → (∀ j, x ≤ j → m j = none) →
    TK (TPost (rdT s d be a n)) s p x x m (d + 1) K →
    Pi.w ctx (envOf [.p p 0, .ag [.i .i64 ((30 : Int) - d), .i .i64 be]]) m x [] none none (RetG ctx tcode_reader_term.c.rs K) tcode_reader_term.c.code := by
  intro d
  induction d with
  | zero =>
    intro hd be a n m x K hbd hp hm hN hK
    have hff : ctx.frz tcode_reader_fail.n = false := rfl
    have hm' := hm
    unfold rcT at hm'
    simp +contextual (disch := omega) [Nat.add_assoc, Int.add_assoc, if_pos, if_neg, -Int.not_lt, -Int.not_le, -Nat.not_lt, -Nat.not_le, -List.length_flatMap, tcode_reader_term.c, hm']
    rw [CallX_op (by rfl)]
    refine openg_w rfl rfl (.inl rfl) ?_
    rw [hff]
    generalize hM : Sto.set _ (x + 1) _ = M
    have hMj : ∀ j, j < x → M j = m j := fun j hj => by rw [← hM, Sto.sne _ _ _ _ (by omega), Sto.sne _ _ _ _ (by omega)]
    have hM1 : M (x + 1) = some (.cells [.i .i64 0, .i .i64 0, .ns, .ns] false) := by rw [← hM, Sto.seq]
    have hMI : InnM p x M := by rw [← hM]; exact ((InnM.none hN).set (fun _ => rfl)).set (fun _ => rfl)
    refine tcode_reader_fail.w s a n 0 2 ((hMj p (by omega)).trans hm) ?_
    intro m2 x2 k1 k2 k3
    have t1 := (k2 (x + 1) (by omega)).trans hM1
    simp +contextual (disch := omega) [Nat.add_assoc, Int.add_assoc, if_pos, if_neg, -Int.not_lt, -Int.not_le, -Nat.not_lt, -Nat.not_le, -List.length_flatMap, t1]
    refine hK _ _ _ (.mk 0 0 [] []) a n 2 ⟨rfl, by omega⟩ (by omega) (fun j q1 q2 => ?_) ?_ ((hMI.of hp k2).set (fun _ => rfl)) rfl rfl (FzT Bn.nil FzN (by omega))
    · rw [Sto.sne _ _ _ _ (by omega), k2 j q2, hMj j q1]
    · rw [Sto.sne _ _ _ _ (by omega), k3]
      rfl
  | succ d ih =>
    intro hd be a n m x K hbd hp hm hN hK
    have hff : ctx.frz tcode_reader_fail.n = false := rfl
    have hfn : ctx.frz tcode_reader_number.n = false := rfl
    have hwi : ((30 : Int) - (d + 1 : Nat)) = ((29 - d : Nat) : Int) := by omega
    rw [hwi]
    have h30 : ¬ (30 : Int) ≤ ((29 - d : Nat) : Int) := by omega
    have hwi2 : (((29 - d : Nat) : Int) + 1) = (30 : Int) - d := by omega
    have hwi3 : 29 - d ≤ 1000 := by omega
    generalize 29 - d = wi at *
    have hm' := hm
    unfold rcT at hm'
    unfold rdT at hK
    by_cases h6 : 600 ≤ n
    · rw [if_pos h6] at hK
      have h6' : (600 : Int) ≤ n := by omega
      simp +contextual (disch := omega) [Nat.add_assoc, Int.add_assoc, if_pos, if_neg, -Int.not_lt, -Int.not_le, -Nat.not_lt, -Nat.not_le, -List.length_flatMap, tcode_reader_term.c, hm', h30, h6']
      rw [CallX_op (by rfl)]
      refine openg_w rfl rfl (.inl rfl) ?_
      rw [hff]
      generalize hM : Sto.set _ (x + 1) _ = M
      have hMj : ∀ j, j < x → M j = m j := fun j hj => by rw [← hM, Sto.sne _ _ _ _ (by omega), Sto.sne _ _ _ _ (by omega)]
      have hM1 : M (x + 1) = some (.cells [.i .i64 0, .i .i64 0, .ns, .ns] false) := by rw [← hM, Sto.seq]
      have hMI : InnM p x M := by rw [← hM]; exact ((InnM.none hN).set (fun _ => rfl)).set (fun _ => rfl)
      refine tcode_reader_fail.w s a n 0 2 ((hMj p (by omega)).trans hm) ?_
      intro m2 x2 k1 k2 k3
      have t1 := (k2 (x + 1) (by omega)).trans hM1
      simp +contextual (disch := omega) [Nat.add_assoc, Int.add_assoc, if_pos, if_neg, -Int.not_lt, -Int.not_le, -Nat.not_lt, -Nat.not_le, -List.length_flatMap, t1]
      refine hK _ _ _ (.mk 0 0 [] []) a n 2 ⟨rfl, by omega⟩ (by omega) (fun j q1 q2 => ?_) ?_ ((hMI.of hp k2).set (fun _ => rfl)) rfl rfl (FzT Bn.nil FzN (by omega))
      · rw [Sto.sne _ _ _ _ (by omega), k2 j q2, hMj j q1]
      · rw [Sto.sne _ _ _ _ (by omega), k3]
        rfl
    rw [if_neg h6] at hK
    have h6' : ¬ (600 : Int) ≤ n := by omega
    simp +contextual (disch := omega) [Nat.add_assoc, Int.add_assoc, if_pos, if_neg, -Int.not_lt, -Int.not_le, -Nat.not_lt, -Nat.not_le, -List.length_flatMap, tcode_reader_term.c, hm', h30, h6']
    rw [CallX_op (by rfl)]
    refine openg_w rfl rfl (.inl rfl) ?_
    rw [hfn]
    generalize hM : Sto.set _ p _ = M
    have hMj : ∀ j, j < x → j ≠ p → M j = m j := fun j hj hjp => by rw [← hM, Sto.sne _ _ _ _ hjp, Sto.sne _ _ _ _ (by omega), Sto.sne _ _ _ _ (by omega)]
    have hM0 : M x = some (.cells [.i .i64 wi, .i .i64 be] false) := by rw [← hM, Sto.sne _ _ _ _ (by omega), Sto.sne _ _ _ _ (by omega), Sto.seq]
    have hM1 : M (x + 1) = some (.cells [.i .i64 0, .i .i64 0, .ns, .ns] false) := by rw [← hM, Sto.sne _ _ _ _ (by omega), Sto.seq]
    have hMp : M p = rcT s a (n + 1 : Nat) 0 := by rw [← hM, Sto.seq]; rfl
    have hMI : InnM p x M := by rw [← hM]; exact (((InnM.none hN).set (fun _ => rfl)).set (fun _ => rfl)).set (fun h => by omega)
    clear hM
    refine tcode_reader_number.w s hl hn a (n + 1) 1099511627777 hMp ?_
    intro m2 x2 k1 k2 k3
    have t0 := (k2 x (by omega)).trans hM0
    have t1 := (k2 (x + 1) (by omega)).trans hM1
    have hI2 := hMI.of hp k2
    have hj2 : ∀ j, j < x → j ≠ p → m2 j = m j := fun j q1 q2 => by rw [k2 j q2, hMj j q1 q2]
    have hbad := numT_bad (s := s) (a := a) (most := 1099511627777)
    generalize numT s a 1099511627777 = r at hK k3 hbad ⊢
    obtain ⟨k, a1, e1⟩ := r
    simp only at hK k3 hbad ⊢
    by_cases he : e1 ≠ 0
    · rw [if_pos he] at hK
      have hk0 := hbad he
      subst hk0
      simp +contextual (disch := omega) [Nat.add_assoc, Int.add_assoc, if_pos, if_neg, -Int.not_lt, -Int.not_le, -Nat.not_lt, -Nat.not_le, -List.length_flatMap, ansK tcode_readers.a, readers_lk, readF]
      rw [CallX_op (by rfl)]
      refine openg_w rfl rfl (.inl rfl) ?_
      rw [hff]
      refine tcode_reader_fail.w s a1 (n + 1 : Nat) e1 20 k3 ?_
      intro m4 x4 q1 q2 q3
      rw [if_neg (by omega)] at q3
      have t4 := (q2 (x + 1) (by omega)).trans t1
      simp +contextual (disch := omega) [Nat.add_assoc, Int.add_assoc, if_pos, if_neg, -Int.not_lt, -Int.not_le, -Nat.not_lt, -Nat.not_le, -List.length_flatMap, t4]
      refine hK _ _ _ (.mk 0 0 [] []) a1 (n + 1 : Nat) e1 ⟨rfl, he⟩ (by omega) (fun j w1 w2 => ?_) ?_ ((hI2.of hp q2).set (fun _ => rfl)) rfl rfl (FzT Bn.nil FzN (by omega))
      · rw [Sto.sne _ _ _ _ (by omega), q2 j w2, hj2 j w1 w2]
      · rw [Sto.sne _ _ _ _ (by omega), q3]
    have he0 : e1 = 0 := by omega
    subst he0
    rw [if_neg (by omega)] at hK
    have hTW : ∀ bl : List Nat, (∀ b ∈ bl, b + d ≤ 30) → TermW s (rdT s d) p (d + 1) wi bl := by
      intro bl hb b a n m x K hmem h1 h2 h3 h4
      rw [hwi2]
      exact ih (by omega) b a n (hb b hmem) h1 h2 h3 h4
    have hk : k = 1 ∨ k = 2 ∨ k = 3 ∨ k = 4 ∨ k = 5 ∨ k = 6 ∨ k = 7 ∨ (k ≠ 1 ∧ k ≠ 2 ∧ k ≠ 3 ∧ k ≠ 4 ∧ k ≠ 5 ∧ k ≠ 6 ∧ k ≠ 7) := by omega
    rcases hk with rfl | rfl | rfl | rfl | rfl | rfl | rfl | ⟨n1, n2, n3, n4, n5, n6, n7⟩
    · simp +contextual (disch := omega) [Nat.add_assoc, Int.add_assoc, if_pos, if_neg, -Int.not_lt, -Int.not_le, -Nat.not_lt, -Nat.not_le, -List.length_flatMap, ansK tcode_readers.a, readers_lk, readF, t0]
      rw [CallX_op (by rfl)]
      refine openg_w rfl rfl (.inl rfl) ?_
      rw [show ctx.frz tcode_reader_variable.n = false from rfl]
      refine tcode_reader_variable.w (x0 := x) s hl hn (rdT s d) wi be a1 (n + 1) (d + 1) (by omega) hp (by omega) k3 hI2 ?_
      intro cs m4 x4 v a4 n4 e4 hP q1 q2 q3 q4 q5 q6 q7
      obtain ⟨c0, c1, c2, c3, rfl⟩ := len4 q5
      have t4 := (q2 (x + 1) (by omega) (by omega)).trans t1
      simp +contextual (disch := omega) [Nat.add_assoc, Int.add_assoc, if_pos, if_neg, -Int.not_lt, -Int.not_le, -Nat.not_lt, -Nat.not_le, -List.length_flatMap, t4]
      have hcc : innL (orNew [p] x) [V.i .i64 1, c1, c2, c3] = true := by
        simp [innL, V.inn] at q6 ⊢
        exact q6.2
      refine hK _ _ _ (.mk 1 v.n v.lvls v.kids) a4 n4 e4 ?_ (by omega) (fun j w1 w2 => ?_) ?_ ((((q4.set (fun _ => rfl)).set (fun _ => by simpa [innO] using q6)).set (fun _ => by simpa [innO] using hcc)).set (fun _ => by simpa [innO] using hcc)) rfl hcc ?_
      · exact TPost0.up hP
      · rw [Sto.sne _ _ _ _ (by omega), Sto.sne _ _ _ _ (by omega), Sto.sne _ _ _ _ (by omega), Sto.sne _ _ _ _ (by omega), q2 j (by omega) w2, hj2 j w1 w2]
      · rw [Sto.sne _ _ _ _ (by omega), Sto.sne _ _ _ _ (by omega), Sto.sne _ _ _ _ (by omega), Sto.sne _ _ _ _ (by omega), q3]
      · exact (q7.kind 1).wide (by omega) (by omega) (fun j w1 w2 => by rw [Sto.sne _ _ _ _ (by omega), Sto.sne _ _ _ _ (by omega), Sto.sne _ _ _ _ (by omega), Sto.sne _ _ _ _ (by omega)])
    · simp +contextual (disch := omega) [Nat.add_assoc, Int.add_assoc, if_pos, if_neg, -Int.not_lt, -Int.not_le, -Nat.not_lt, -Nat.not_le, -List.length_flatMap, ansK tcode_readers.a, readers_lk, readF, t0]
      rw [CallX_op (by rfl)]
      refine openg_w rfl rfl (.inl rfl) ?_
      rw [show ctx.frz tcode_reader_sort.n = false from rfl]
      refine tcode_reader_sort.w (x0 := x) s hl hn (rdT s d) wi be be a1 (n + 1) (d + 1) hp (by omega) k3 hI2 ?_
      intro cs m4 x4 v a4 n4 e4 hP q1 q2 q3 q4 q5 q6 q7
      obtain ⟨c0, c1, c2, c3, rfl⟩ := len4 q5
      have t4 := (q2 (x + 1) (by omega) (by omega)).trans t1
      simp +contextual (disch := omega) [Nat.add_assoc, Int.add_assoc, if_pos, if_neg, -Int.not_lt, -Int.not_le, -Nat.not_lt, -Nat.not_le, -List.length_flatMap, t4]
      have hcc : innL (orNew [p] x) [V.i .i64 2, c1, c2, c3] = true := by
        simp [innL, V.inn] at q6 ⊢
        exact q6.2
      refine hK _ _ _ (.mk 2 v.n v.lvls v.kids) a4 n4 e4 ?_ (by omega) (fun j w1 w2 => ?_) ?_ ((((q4.set (fun _ => rfl)).set (fun _ => by simpa [innO] using q6)).set (fun _ => by simpa [innO] using hcc)).set (fun _ => by simpa [innO] using hcc)) rfl hcc ?_
      · exact TPost0.up hP
      · rw [Sto.sne _ _ _ _ (by omega), Sto.sne _ _ _ _ (by omega), Sto.sne _ _ _ _ (by omega), Sto.sne _ _ _ _ (by omega), q2 j (by omega) w2, hj2 j w1 w2]
      · rw [Sto.sne _ _ _ _ (by omega), Sto.sne _ _ _ _ (by omega), Sto.sne _ _ _ _ (by omega), Sto.sne _ _ _ _ (by omega), q3]
      · exact (q7.kind 2).wide (by omega) (by omega) (fun j w1 w2 => by rw [Sto.sne _ _ _ _ (by omega), Sto.sne _ _ _ _ (by omega), Sto.sne _ _ _ _ (by omega), Sto.sne _ _ _ _ (by omega)])
    · simp +contextual (disch := omega) [Nat.add_assoc, Int.add_assoc, if_pos, if_neg, -Int.not_lt, -Int.not_le, -Nat.not_lt, -Nat.not_le, -List.length_flatMap, ansK tcode_readers.a, readers_lk, readF, t0]
      rw [CallX_op (by rfl)]
      refine openg_w rfl rfl (.inl rfl) ?_
      rw [show ctx.frz tcode_reader_constant.n = false from rfl]
      refine tcode_reader_constant.w (x0 := x) s hl hn (rdT s d) wi be be a1 (n + 1) (d + 1) hp (by omega) k3 hI2 ?_
      intro cs m4 x4 v a4 n4 e4 hP q1 q2 q3 q4 q5 q6 q7
      obtain ⟨c0, c1, c2, c3, rfl⟩ := len4 q5
      have t4 := (q2 (x + 1) (by omega) (by omega)).trans t1
      simp +contextual (disch := omega) [Nat.add_assoc, Int.add_assoc, if_pos, if_neg, -Int.not_lt, -Int.not_le, -Nat.not_lt, -Nat.not_le, -List.length_flatMap, t4]
      have hcc : innL (orNew [p] x) [V.i .i64 3, c1, c2, c3] = true := by
        simp [innL, V.inn] at q6 ⊢
        exact q6.2
      refine hK _ _ _ (.mk 3 v.n v.lvls v.kids) a4 n4 e4 ?_ (by omega) (fun j w1 w2 => ?_) ?_ ((((q4.set (fun _ => rfl)).set (fun _ => by simpa [innO] using q6)).set (fun _ => by simpa [innO] using hcc)).set (fun _ => by simpa [innO] using hcc)) rfl hcc ?_
      · exact TPost0.up hP
      · rw [Sto.sne _ _ _ _ (by omega), Sto.sne _ _ _ _ (by omega), Sto.sne _ _ _ _ (by omega), Sto.sne _ _ _ _ (by omega), q2 j (by omega) w2, hj2 j w1 w2]
      · rw [Sto.sne _ _ _ _ (by omega), Sto.sne _ _ _ _ (by omega), Sto.sne _ _ _ _ (by omega), Sto.sne _ _ _ _ (by omega), q3]
      · exact (q7.kind 3).wide (by omega) (by omega) (fun j w1 w2 => by rw [Sto.sne _ _ _ _ (by omega), Sto.sne _ _ _ _ (by omega), Sto.sne _ _ _ _ (by omega), Sto.sne _ _ _ _ (by omega)])
    · simp +contextual (disch := omega) [Nat.add_assoc, Int.add_assoc, if_pos, if_neg, -Int.not_lt, -Int.not_le, -Nat.not_lt, -Nat.not_le, -List.length_flatMap, ansK tcode_readers.a, readers_lk, readF, t0]
      rw [CallX_op (by rfl)]
      refine openg_w rfl rfl (.inl rfl) ?_
      rw [show ctx.frz tcode_reader_apply.n = false from rfl]
      refine tcode_reader_apply.w (x0 := x) s (rdT s d) wi be a1 (n + 1) (d + 1) 4 hwi3 (by omega) (hTW _ (by simp; omega)) hp (by omega) k3 hI2 ?_
      intro cs m4 x4 v a4 n4 e4 hP q1 q2 q3 q4 q5 q6 q7
      obtain ⟨c0, c1, c2, c3, rfl⟩ := len4 q5
      have t4 := (q2 (x + 1) (by omega) (by omega)).trans t1
      simp +contextual (disch := omega) [Nat.add_assoc, Int.add_assoc, if_pos, if_neg, -Int.not_lt, -Int.not_le, -Nat.not_lt, -Nat.not_le, -List.length_flatMap, t4]
      rw [show (rdKs (rdT s d) [be, be] a1 (n + 1)).tm 4 = partT s (rdT s d) 4 be a1 (n + 1) from rfl] at hP
      have hcc : innL (orNew [p] x) [V.i .i64 4, c1, c2, c3] = true := by
        simp [innL, V.inn] at q6 ⊢
        exact q6.2
      refine hK _ _ _ (.mk 4 v.n v.lvls v.kids) a4 n4 e4 ?_ (by omega) (fun j w1 w2 => ?_) ?_ ((((q4.set (fun _ => rfl)).set (fun _ => by simpa [innO] using q6)).set (fun _ => by simpa [innO] using hcc)).set (fun _ => by simpa [innO] using hcc)) rfl hcc ?_
      · exact TPost0.up hP
      · rw [Sto.sne _ _ _ _ (by omega), Sto.sne _ _ _ _ (by omega), Sto.sne _ _ _ _ (by omega), Sto.sne _ _ _ _ (by omega), q2 j (by omega) w2, hj2 j w1 w2]
      · rw [Sto.sne _ _ _ _ (by omega), Sto.sne _ _ _ _ (by omega), Sto.sne _ _ _ _ (by omega), Sto.sne _ _ _ _ (by omega), q3]
      · exact (q7.kind 4).wide (by omega) (by omega) (fun j w1 w2 => by rw [Sto.sne _ _ _ _ (by omega), Sto.sne _ _ _ _ (by omega), Sto.sne _ _ _ _ (by omega), Sto.sne _ _ _ _ (by omega)])
    · simp +contextual (disch := omega) [Nat.add_assoc, Int.add_assoc, if_pos, if_neg, -Int.not_lt, -Int.not_le, -Nat.not_lt, -Nat.not_le, -List.length_flatMap, ansK tcode_readers.a, readers_lk, readF, t0]
      rw [CallX_op (by rfl)]
      refine openg_w rfl rfl (.inl rfl) ?_
      rw [show ctx.frz tcode_reader_bind.n = false from rfl]
      refine tcode_reader_bind.w (x0 := x) s (rdT s d) wi be a1 (n + 1) (d + 1) 5 hwi3 (by omega) (hTW _ (by simp; omega)) hp (by omega) k3 hI2 ?_
      intro cs m4 x4 v a4 n4 e4 hP q1 q2 q3 q4 q5 q6 q7
      obtain ⟨c0, c1, c2, c3, rfl⟩ := len4 q5
      have t4 := (q2 (x + 1) (by omega) (by omega)).trans t1
      simp +contextual (disch := omega) [Nat.add_assoc, Int.add_assoc, if_pos, if_neg, -Int.not_lt, -Int.not_le, -Nat.not_lt, -Nat.not_le, -List.length_flatMap, t4]
      rw [show (rdKs (rdT s d) [be, be + 1] a1 (n + 1)).tm 5 = partT s (rdT s d) 5 be a1 (n + 1) from rfl] at hP
      have hcc : innL (orNew [p] x) [V.i .i64 5, c1, c2, c3] = true := by
        simp [innL, V.inn] at q6 ⊢
        exact q6.2
      refine hK _ _ _ (.mk 5 v.n v.lvls v.kids) a4 n4 e4 ?_ (by omega) (fun j w1 w2 => ?_) ?_ ((((q4.set (fun _ => rfl)).set (fun _ => by simpa [innO] using q6)).set (fun _ => by simpa [innO] using hcc)).set (fun _ => by simpa [innO] using hcc)) rfl hcc ?_
      · exact TPost0.up hP
      · rw [Sto.sne _ _ _ _ (by omega), Sto.sne _ _ _ _ (by omega), Sto.sne _ _ _ _ (by omega), Sto.sne _ _ _ _ (by omega), q2 j (by omega) w2, hj2 j w1 w2]
      · rw [Sto.sne _ _ _ _ (by omega), Sto.sne _ _ _ _ (by omega), Sto.sne _ _ _ _ (by omega), Sto.sne _ _ _ _ (by omega), q3]
      · exact (q7.kind 5).wide (by omega) (by omega) (fun j w1 w2 => by rw [Sto.sne _ _ _ _ (by omega), Sto.sne _ _ _ _ (by omega), Sto.sne _ _ _ _ (by omega), Sto.sne _ _ _ _ (by omega)])
    · simp +contextual (disch := omega) [Nat.add_assoc, Int.add_assoc, if_pos, if_neg, -Int.not_lt, -Int.not_le, -Nat.not_lt, -Nat.not_le, -List.length_flatMap, ansK tcode_readers.a, readers_lk, readF, t0]
      rw [CallX_op (by rfl)]
      refine openg_w rfl rfl (.inl rfl) ?_
      rw [show ctx.frz tcode_reader_bind.n = false from rfl]
      refine tcode_reader_bind.w (x0 := x) s (rdT s d) wi be a1 (n + 1) (d + 1) 6 hwi3 (by omega) (hTW _ (by simp; omega)) hp (by omega) k3 hI2 ?_
      intro cs m4 x4 v a4 n4 e4 hP q1 q2 q3 q4 q5 q6 q7
      obtain ⟨c0, c1, c2, c3, rfl⟩ := len4 q5
      have t4 := (q2 (x + 1) (by omega) (by omega)).trans t1
      simp +contextual (disch := omega) [Nat.add_assoc, Int.add_assoc, if_pos, if_neg, -Int.not_lt, -Int.not_le, -Nat.not_lt, -Nat.not_le, -List.length_flatMap, t4]
      rw [show (rdKs (rdT s d) [be, be + 1] a1 (n + 1)).tm 6 = partT s (rdT s d) 6 be a1 (n + 1) from rfl] at hP
      have hcc : innL (orNew [p] x) [V.i .i64 6, c1, c2, c3] = true := by
        simp [innL, V.inn] at q6 ⊢
        exact q6.2
      refine hK _ _ _ (.mk 6 v.n v.lvls v.kids) a4 n4 e4 ?_ (by omega) (fun j w1 w2 => ?_) ?_ ((((q4.set (fun _ => rfl)).set (fun _ => by simpa [innO] using q6)).set (fun _ => by simpa [innO] using hcc)).set (fun _ => by simpa [innO] using hcc)) rfl hcc ?_
      · exact TPost0.up hP
      · rw [Sto.sne _ _ _ _ (by omega), Sto.sne _ _ _ _ (by omega), Sto.sne _ _ _ _ (by omega), Sto.sne _ _ _ _ (by omega), q2 j (by omega) w2, hj2 j w1 w2]
      · rw [Sto.sne _ _ _ _ (by omega), Sto.sne _ _ _ _ (by omega), Sto.sne _ _ _ _ (by omega), Sto.sne _ _ _ _ (by omega), q3]
      · exact (q7.kind 6).wide (by omega) (by omega) (fun j w1 w2 => by rw [Sto.sne _ _ _ _ (by omega), Sto.sne _ _ _ _ (by omega), Sto.sne _ _ _ _ (by omega), Sto.sne _ _ _ _ (by omega)])
    · simp +contextual (disch := omega) [Nat.add_assoc, Int.add_assoc, if_pos, if_neg, -Int.not_lt, -Int.not_le, -Nat.not_lt, -Nat.not_le, -List.length_flatMap, ansK tcode_readers.a, readers_lk, readF, t0]
      rw [CallX_op (by rfl)]
      refine openg_w rfl rfl (.inl rfl) ?_
      rw [show ctx.frz tcode_reader_let.n = false from rfl]
      refine tcode_reader_let.w (x0 := x) s (rdT s d) wi be a1 (n + 1) (d + 1) 7 hwi3 (by omega) (hTW _ (by simp; omega)) hp (by omega) k3 hI2 ?_
      intro cs m4 x4 v a4 n4 e4 hP q1 q2 q3 q4 q5 q6 q7
      obtain ⟨c0, c1, c2, c3, rfl⟩ := len4 q5
      have t4 := (q2 (x + 1) (by omega) (by omega)).trans t1
      simp +contextual (disch := omega) [Nat.add_assoc, Int.add_assoc, if_pos, if_neg, -Int.not_lt, -Int.not_le, -Nat.not_lt, -Nat.not_le, -List.length_flatMap, t4]
      rw [show (rdKs (rdT s d) [be, be, be + 1] a1 (n + 1)).tm 7 = partT s (rdT s d) 7 be a1 (n + 1) from rfl] at hP
      have hcc : innL (orNew [p] x) [V.i .i64 7, c1, c2, c3] = true := by
        simp [innL, V.inn] at q6 ⊢
        exact q6.2
      refine hK _ _ _ (.mk 7 v.n v.lvls v.kids) a4 n4 e4 ?_ (by omega) (fun j w1 w2 => ?_) ?_ ((((q4.set (fun _ => rfl)).set (fun _ => by simpa [innO] using q6)).set (fun _ => by simpa [innO] using hcc)).set (fun _ => by simpa [innO] using hcc)) rfl hcc ?_
      · exact TPost0.up hP
      · rw [Sto.sne _ _ _ _ (by omega), Sto.sne _ _ _ _ (by omega), Sto.sne _ _ _ _ (by omega), Sto.sne _ _ _ _ (by omega), q2 j (by omega) w2, hj2 j w1 w2]
      · rw [Sto.sne _ _ _ _ (by omega), Sto.sne _ _ _ _ (by omega), Sto.sne _ _ _ _ (by omega), Sto.sne _ _ _ _ (by omega), q3]
      · exact (q7.kind 7).wide (by omega) (by omega) (fun j w1 w2 => by rw [Sto.sne _ _ _ _ (by omega), Sto.sne _ _ _ _ (by omega), Sto.sne _ _ _ _ (by omega), Sto.sne _ _ _ _ (by omega)])
    · have hr : ∀ z : Sto, lkV z (.one .i) .nf readersM (.i .i64 k) true = some (.tu [.nf, .b false], []) := fun z => by
        rw [readers_lk]
        have h1 : ¬ (k : Int) = 1 := by omega
        have h2 : ¬ (k : Int) = 2 := by omega
        have h3 : ¬ (k : Int) = 3 := by omega
        have h4 : ¬ (k : Int) = 4 := by omega
        have h5 : ¬ (k : Int) = 5 := by omega
        have h6 : ¬ (k : Int) = 6 := by omega
        have h7 : ¬ (k : Int) = 7 := by omega
        have h8 : (decide (1 ≤ (k : Int)) && decide ((k : Int) ≤ 7)) = false := by
          by_cases h : (1 : Int) ≤ k
          · have : ¬ (k : Int) ≤ 7 := by omega
            simp [this]
          · simp [h]
        simp only [readF, if_neg h1, if_neg h2, if_neg h3, if_neg h4, if_neg h5, if_neg h6, if_neg h7, h8]
      unfold partT at hK
      rw [if_neg n1, if_neg n2, if_neg n3, if_neg (by omega)] at hK
      simp +contextual (disch := omega) [Nat.add_assoc, Int.add_assoc, if_pos, if_neg, -Int.not_lt, -Int.not_le, -Nat.not_lt, -Nat.not_le, -List.length_flatMap, ansK tcode_readers.a, hr]
      rw [CallX_op (by rfl)]
      refine openg_w rfl rfl (.inl rfl) ?_
      rw [hff]
      refine tcode_reader_fail.w s a1 (n + 1 : Nat) 0 20 k3 ?_
      intro m4 x4 q1 q2 q3
      rw [if_pos rfl] at q3
      have t4 := (q2 (x + 1) (by omega)).trans t1
      simp +contextual (disch := omega) [Nat.add_assoc, Int.add_assoc, if_pos, if_neg, -Int.not_lt, -Int.not_le, -Nat.not_lt, -Nat.not_le, -List.length_flatMap, t4]
      refine hK _ _ _ (.mk 0 0 [] []) a1 (n + 1 : Nat) 20 ⟨rfl, by omega⟩ (by omega) (fun j w1 w2 => ?_) ?_ ((hI2.of hp q2).set (fun _ => rfl)) rfl rfl (FzT Bn.nil FzN (by omega))
      · rw [Sto.sne _ _ _ _ (by omega), q2 j w2, hj2 j w1 w2]
      · rw [Sto.sne _ _ _ _ (by omega), q3]
end Pi


set_option linter.unusedSimpArgs false
set_option linter.unusedVariables false
namespace Pi
def trV : TR → V
  | .ok v a _ => .tu [.ag (cT v), .i .i64 a, .i .i64 0]
  | .bad e => .tu [.ag (cT (.mk 0 0 [] [])), .i .i64 0, .i .i64 e]
/-- What Get tells. -/
def getTV (l : List Nat) (p : Int) : V := if p < 0 ∨ p > l.length then trV (.bad 1) else trV (rdT l 30 0 p.toNat 0)
set_option maxHeartbeats 2000000 in
theorem tcode_Get.a (l : List Nat) (p : Int) (hl : Byt l) (hn : l.length ≤ 10000) : Ans ctx tcode_Get.n [.s (bs l), .i .i64 p] (getTV l p) := by
  refine ansg tcode_Get.f ?_
  have hz : V.ag [.i .i64 0, .i .i64 0, .sl [] 0, .sl [] 0] = .ag (cT (.mk 0 0 [] [])) := by rw [cT_at]; rfl
  unfold getTV
  by_cases hp1 : p < 0
  · rw [if_pos (.inl hp1)]
    simp +contextual (disch := omega) [Nat.add_assoc, Int.add_assoc, if_pos, if_neg, -Int.not_lt, -Int.not_le, -Nat.not_lt, -Nat.not_le, -List.length_flatMap, tcode_Get.c, hp1, trV, hz]
  · by_cases hp2 : p > l.length
    · rw [if_pos (.inr hp2)]
      simp +contextual (disch := omega) [Nat.add_assoc, Int.add_assoc, if_pos, if_neg, -Int.not_lt, -Int.not_le, -Nat.not_lt, -Nat.not_le, -List.length_flatMap, tcode_Get.c, hp1, hp2, trV, hz]
    · rw [if_neg (by omega)]
      obtain ⟨a, rfl⟩ : ∃ a : Nat, p = a := ⟨p.toNat, by omega⟩
      have hp2' : ¬ (a : Int) > l.length := hp2
      have hft : ctx.frz tcode_reader_term.n = false := rfl
      simp +contextual (disch := omega) [Nat.add_assoc, Int.add_assoc, if_pos, if_neg, -Int.not_lt, -Int.not_le, -Nat.not_lt, -Nat.not_le, -List.length_flatMap, tcode_Get.c, hp1, hp2', Int.toNat_natCast]
      rw [CallX_op (by rfl)]
      refine openg_w rfl rfl (.inl rfl) ?_
      rw [hft]
      refine tcode_reader_term.w l hl hn 14 30 (by omega) 0 a 0 (by omega) (by omega) (by simp +contextual (disch := omega) [Nat.add_assoc, Int.add_assoc, if_pos, if_neg, -Int.not_lt, -Int.not_le, -Nat.not_lt, -Nat.not_le, -List.length_flatMap]; rfl) (fun j hj => by simp +contextual (disch := omega) [Nat.add_assoc, Int.add_assoc, if_pos, if_neg, -Int.not_lt, -Int.not_le, -Nat.not_lt, -Nat.not_le, -List.length_flatMap]) ?_
      intro cs m' x' v a' n' e' hP h1 h2 h3 h4 h5 h6 h7
      have t0 : m' 0 = some (.cells [.i .i64 0, .i .i64 0, .ns, .ns] false) := by rw [h2 0 (by omega) (by omega)]; simp +contextual (disch := omega) [Nat.add_assoc, Int.add_assoc, if_pos, if_neg, -Int.not_lt, -Int.not_le, -Nat.not_lt, -Nat.not_le, -List.length_flatMap]
      have t1 : m' 1 = some (.cells [.i .i64 0] false) := by rw [h2 1 (by omega) (by omega)]; simp +contextual (disch := omega) [Nat.add_assoc, Int.add_assoc, if_pos, if_neg, -Int.not_lt, -Int.not_le, -Nat.not_lt, -Nat.not_le, -List.length_flatMap]
      have t2 : m' 2 = some (.cells [.i .i64 0] false) := by rw [h2 2 (by omega) (by omega)]; simp +contextual (disch := omega) [Nat.add_assoc, Int.add_assoc, if_pos, if_neg, -Int.not_lt, -Int.not_le, -Nat.not_lt, -Nat.not_le, -List.length_flatMap]
      have t15 : m' 15 = some (.cells [.p 14 0] false) := by rw [h2 15 (by omega) (by omega)]; simp +contextual (disch := omega) [Nat.add_assoc, Int.add_assoc, if_pos, if_neg, -Int.not_lt, -Int.not_le, -Nat.not_lt, -Nat.not_le, -List.length_flatMap]
      unfold rcT at h3
      have ht : cs.take 4 = cs := List.take_of_length_le (by omega)
      generalize rdT l 30 0 a 0 = r at hP ⊢
      simp +contextual (disch := omega) [Nat.add_assoc, Int.add_assoc, if_pos, if_neg, -Int.not_lt, -Int.not_le, -Nat.not_lt, -Nat.not_le, -List.length_flatMap, t0, t1, t2, t15, h3, ht, h5]
      refine df_w tcode_Get_1.f ?_
      cases r with
      | bad e =>
        obtain ⟨rfl, he⟩ := hP
        have he' : ¬ (e : Int) = 0 := by omega
        simp +contextual (disch := omega) [Nat.add_assoc, Int.add_assoc, if_pos, if_neg, -Int.not_lt, -Int.not_le, -Nat.not_lt, -Nat.not_le, -List.length_flatMap, tcode_Get_1.c, t0, t1, t2, t15, h3, ht, h5, he, he', trV, hz]
      | ok v2 a2 n2 =>
        obtain ⟨rfl, rfl, rfl, rfl⟩ := hP
        simp +contextual (disch := omega) [Nat.add_assoc, Int.add_assoc, if_pos, if_neg, -Int.not_lt, -Int.not_le, -Nat.not_lt, -Nat.not_le, -List.length_flatMap, tcode_Get_1.c, t0, t1, t2, t15, h3, ht, h5, trV]
        generalize hM : Sto.set _ 2 _ = M
        obtain ⟨ids, e⟩ := h7 M (fun j q1 q2 => by rw [← hM]; simp +contextual (disch := omega) [Nat.add_assoc, Int.add_assoc, if_pos, if_neg, -Int.not_lt, -Int.not_le, -Nat.not_lt, -Nat.not_le, -List.length_flatMap]) 40 (by omega)
        simp +contextual (disch := omega) [Nat.add_assoc, Int.add_assoc, if_pos, if_neg, -Int.not_lt, -Int.not_le, -Nat.not_lt, -Nat.not_le, -List.length_flatMap, e]
end Pi


set_option linter.unusedSimpArgs false
set_option linter.unusedVariables false
namespace Pi
end Pi


set_option linter.unusedSimpArgs false
set_option linter.unusedVariables false
namespace Pi
theorem lvR_ok {s : List Nat} {a : Nat} {v : L} {a' n' : Nat} (h : lvR s a = .ok v a' n') : v.Ok := by
  unfold lvR at h
  split at h
  · cases h
  · exact rd_ok _ _ _ _ _ _ _ h
theorem rdLs_ok {s : List Nat} : ∀ {m a : Nat} {ls : List L} {a' : Nat}, rdLs s m a = .ok ls a' → ls.length = m ∧ ∀ x ∈ ls, L.Ok x
  | 0, a, ls, a', h => by cases h; simp
  | m + 1, a, ls, a', h => by
    rw [rdLs_succ] at h
    cases hr : lvR s a with
    | bad e => rw [hr] at h; cases h
    | ok v a2 n2 =>
      rw [hr] at h
      simp only at h
      cases hr2 : rdLs s m a2 with
      | bad e => rw [hr2] at h; cases h
      | ok ls2 a3 =>
        rw [hr2] at h
        cases h
        obtain ⟨h1, h2⟩ := rdLs_ok hr2
        refine ⟨by simp [h1], fun x hx => ?_⟩
        rcases List.mem_cons.1 hx with rfl | hx
        · exact lvR_ok hr
        · exact h2 x hx
theorem rdKs_ok {f : Nat → Nat → Nat → TR} (hf : ∀ b a n v a' n', f b a n = .ok v a' n' → v.Ok) : ∀ {bs : List Nat} {a n : Nat} {ks : List Tm} {a' n' : Nat}, rdKs f bs a n = .ok ks a' n' → ks.length = bs.length ∧ ∀ x ∈ ks, Tm.Ok x
  | [], a, n, ks, a', n', h => by cases h; simp
  | b :: bs, a, n, ks, a', n', h => by
    rw [rdKs_cons] at h
    cases hr : f b a n with
    | bad e => rw [hr] at h; cases h
    | ok v a2 n2 =>
      rw [hr] at h
      simp only at h
      cases hr2 : rdKs f bs a2 n2 with
      | bad e => rw [hr2] at h; cases h
      | ok ls2 a3 n3 =>
        rw [hr2] at h
        cases h
        obtain ⟨h1, h2⟩ := rdKs_ok hf hr2
        refine ⟨by simp [h1], fun x hx => ?_⟩
        rcases List.mem_cons.1 hx with rfl | hx
        · exact hf _ _ _ _ _ _ hr
        · exact h2 x hx
theorem getR_le : ∀ (l : List Nat) (k n : Nat), (getR l k n).1 ≤ 1099511627776
  | [], k, n => by simp [getR]
  | b :: r, k, n => by
    rw [getR]
    split
    · simp
    · split
      · split
        · simp
        · simp only; omega
      · exact getR_le r _ _
theorem numT_bd (s : List Nat) (a most : Nat) : (numT s a most).1 < 1099511627777 := by
  have h : (getS s a).1 ≤ 1099511627776 := by
    unfold getS
    split
    · simp
    · exact getR_le _ _ _
  unfold numT
  split
  · simp
  · split
    · simp
    · simp only; omega
theorem partT_ok {s : List Nat} {f : Nat → Nat → Nat → TR} (hf : ∀ b a n v a' n', f b a n = .ok v a' n' → v.Ok) {k b a n : Nat} {v : Tm} {a' n' : Nat} (h : partT s f k b a n = .ok v a' n') : v.Ok := by
  unfold partT at h
  split at h
  · split at h
    · cases h
    · cases h
      have := numT_bd s a (1000 + b)
      exact .mk (by simp) (by simp) (by omega) (by omega) (fun x hx => by cases hx) (fun x hx => by cases hx)
  split at h
  · cases hr : rdLs s 1 a with
    | bad e => rw [hr] at h; cases h
    | ok ls a2 =>
      rw [hr] at h
      cases h
      obtain ⟨h1, h2⟩ := rdLs_ok hr
      exact .mk (by omega) (by simp) (by omega) (by omega) h2 (fun x hx => by cases hx)
  split at h
  · split at h
    · cases h
    split at h
    · cases h
    have b1 := numT_bd s a 20
    have b2 := numT_bd s (numT s a 20).2.1 6
    cases hr : rdLs s (numT s (numT s a 20).2.1 6).1 (numT s (numT s a 20).2.1 6).2.1 with
    | bad e => rw [hr] at h; cases h
    | ok ls a2 =>
      rw [hr] at h
      cases h
      obtain ⟨h1, h2⟩ := rdLs_ok hr
      exact .mk (by omega) (by simp) (by omega) (by omega) h2 (fun x hx => by cases hx)
  split at h
  · rename_i hk
    cases hr : rdKs f (kidsB k b) a n with
    | bad e => rw [hr] at h; cases h
    | ok ks a2 n2 =>
      rw [hr] at h
      cases h
      obtain ⟨h1, h2⟩ := rdKs_ok hf hr
      have : (kidsB k b).length ≤ 3 := by unfold kidsB; split <;> (try split) <;> simp
      exact .mk (by simp) (by omega) (by omega) (by omega) (fun x hx => by cases hx) h2
  · cases h
theorem rdT_ok (s : List Nat) : ∀ (d b a n : Nat) (v : Tm) (a' n' : Nat), rdT s d b a n = .ok v a' n' → v.Ok
  | 0, b, a, n, v, a', n', h => by cases h
  | d + 1, b, a, n, v, a', n', h => by
    unfold rdT at h
    split at h
    · cases h
    split at h
    · cases h
    exact partT_ok (rdT_ok s d) h
end Pi

