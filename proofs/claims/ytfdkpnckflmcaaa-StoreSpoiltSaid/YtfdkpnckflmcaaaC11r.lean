/- Laws of layer 11: stores with one thing spoilt. -/
import Derived.Test.YtfdkpnckflmcaaaC11q
import Derived.Test.YtfdkpnckflmcaaaC08n
import Derived.Test.YtfdkpnckflmcaaaC11n
set_option linter.unusedSimpArgs false
set_option linter.unusedVariables false
namespace Pi
theorem law11_arrow.a (a b off : Int) : Ans ctx law11_arrow.n [.i .i64 a, .i .i64 b, .i .i64 off] (.ag (cC ⟨[⟨a, 0⟩], ⟨b, off⟩⟩)) := by
  refine ans law11_arrow.f ?_
  simp +contextual (disch := omega) [Nat.add_assoc, Int.add_assoc, if_pos, if_neg, -Int.not_lt, -Int.not_le, -Nat.not_lt, -Nat.not_le, -List.length_flatMap, law11_arrow.c]
  rfl
set_option maxHeartbeats 2000000 in
theorem law11_StoreSpoilt.a (n : Nat) (hn : n < 256) (l : List Nat) (hb : Byt l) (hl : l.length ≤ 9223372036854775807) (how : Nat) (hh : how < 256) (k : Int) (hk : -9223372036854775808 ≤ k ∧ k < 9223372036854775808) :
    Ans ctx law11_StoreSpoilt.n [.i .u8 n, sV cU l, .i .u8 how, .i .i64 k] (.b true) := by
  obtain ⟨vs, hvs⟩ : ∃ vs, vs = [V.i .u8 n, sV cU l, .i .u8 how, .i .i64 k] := ⟨_, rfl⟩
  rw [← hvs]
  refine ans law11_StoreSpoilt.f ?_
  have hv := varsB_bd n
  have hA0 := law11_arrow.a 0 0 0
  have hA1 := law11_arrow.a 0 0 1
  simp +contextual (disch := omega) [Nat.add_assoc, Int.add_assoc, if_pos, if_neg, -Int.not_lt, -Int.not_le, -Nat.not_lt, -Nat.not_le, -List.length_flatMap, hvs, law11_StoreSpoilt.c]
  rw [CallX_op (by rfl)]
  refine openg_w rfl rfl (.inl rfl) ?_
  have hfo : ctx.frz law11_Made.n = false := rfl
  rw [hfo]
  refine law11_Made.w n hn l hb hl ?_
  intro B1 B2 gs m1 x1 hx1 hm1 hX1 hB1 hS1
  have hgd := madeSt_Gd n l
  generalize madeSt n l = s at *
  obtain ⟨r, hr⟩ : ∃ r, r = how % 8 := ⟨_, rfl⟩
  have er : (how : Int).tmod 8 = (r : Nat) := by rw [hr, Int.tmod_eq_emod_of_nonneg (by omega)]; rfl
  have hcs : r = 0 ∨ r = 1 ∨ r = 2 ∨ r = 3 ∨ r = 4 ∨ r = 5 ∨ r = 6 ∨ r = 7 := by omega
  clear hr
  obtain ⟨hN, hml⟩ := hgd.nats
  have hfew := hgd.few
  have hT : ∀ (s' : St) (c : List C) (a : A) (b : List A), s'.Few → c.length ≤ 1000 → (∀ d ∈ c, d.frm.length ≤ 1000) → b.length ≤ 1000 → Ans ctx law11_told.n [.ag [.i .i64 s'.vars, sV cC s'.cl, sV cI s'.md], sV cC c, .ag [.i .i64 a.var, .i .i64 a.off], sV cA b] (.b true) :=
    fun s' c a b q1 q2 q3 q4 => law11_told.b s' c a b q1 (by omega) (fun d hd => by have := q3 d hd; omega) (by omega)
  have hC : ∀ (M : Sto) (c : List C), M (x1 + 2) = some (.cells (c.flatMap cC) false) → c.length = 1 → ∃ i, frzW (der M 24) (.ms (x1 + 2) 0 1 3) = some (sV cC c, i) := fun M c h1 h2 =>
    ⟨_, (Bf.mem (f := cC) (k := 3) (lo := 0) (x := x1 + 3) (l := c) h1 rfl h2.symm (by omega) (by omega)).fz24⟩
  have hB : ∀ (M : Sto) (b : List A), M (x1 + 6) = some (.cells (b.flatMap cA) false) → b.length = 1 → ∃ i, frzW (der M 24) (.ms (x1 + 6) 0 1 2) = some (sV cA b, i) := fun M b h1 h2 =>
    ⟨_, (Bf.mem (f := cA) (k := 2) (lo := 0) (x := x1 + 7) (l := b) h1 rfl h2.symm (by omega) (by omega)).fz24⟩
  have hX : ∀ M : Sto, (∀ j, j < x1 → M j = m1 j) → ∃ i, frzW (der M 24) B1 = some (sV cC s.cl, i) := fun M h => by
    obtain ⟨i, h, _⟩ := (hX1.up (m' := M) (Nat.le_refl _) (Nat.le_refl _) (fun j _ q => h j q)).rc.fz24
    exact ⟨i, h⟩
  have hM : ∀ M : Sto, (∀ j, j < x1 → M j = m1 j) → ∃ i, frzW (der M 24) B2 = some (sV cI s.md, i) := fun M h => ⟨_, (hB1.up (m' := M) (Nat.le_refl _) (fun j _ q => h j q)).fz24⟩
  have hfl : (s.cl.flatMap cC).length = s.cl.length * 3 := flat_len s.cl
  obtain ⟨cc, hcc⟩ : ∃ cc : List C, cc = [⟨[⟨0, 0⟩], ⟨0, 0⟩⟩] := ⟨_, rfl⟩
  obtain ⟨bb, hbb⟩ : ∃ bb : List A, bb = [⟨0, 0⟩] := ⟨_, rfl⟩
  have lc : cc.length = 1 := by rw [hcc]; rfl
  have lb : bb.length = 1 := by rw [hbb]; rfl
  have lf : ∀ d ∈ cc, d.frm.length ≤ 1000 := by rw [hcc]; simp
  rcases hB1 with ⟨rfl, h⟩ | ⟨a2, cs, rfl, w2, wR, w3, w4⟩
  · have h := congrArg List.length h; rw [hml] at h; simp at h; omega
  have hXs := hS1 a2 _ rfl
  have hp : 0 < s.md.length := by rw [hml]; omega
  obtain ⟨m0', ms, hmd⟩ : ∃ m0' ms, s.md = m0' :: ms := by
    cases h : s.md with
    | nil => rw [h] at hp; simp at hp
    | cons a b => exact ⟨a, b, rfl⟩
  have hF : ∀ (v : Int) (cs' : List C) (md' : List Int), cs'.length ≤ 1000 → (∀ c ∈ cs', c.frm.length ≤ 1000) → md'.length ≤ 1000 → St.Few ⟨v, cs', md'⟩ := fun v cs' md' q1 q2 q3 => ⟨⟨by simp only; omega, fun c hc => by have := q2 c hc; omega⟩, q1, q3, q2⟩
  have hl15 := hgd.len
  have hfr := hfew.2.2.2
  rcases hcs with rfl | rfl | rfl | rfl | rfl | rfl | rfl | rfl
  · have hc1 : 1 ≤ cs.length := by have := wR.le; omega
    have hcs : cs = .i .i64 m0' :: cs.tail := by
      have e := wR.eq
      rw [hmd] at e
      cases cs with
      | nil => simp at hc1
      | cons c r =>
        simp only [List.length_cons, Nat.succ_mul, List.flatMap_cons, cI, List.cons_append, List.nil_append, Nat.mul_one, List.take_succ_cons, List.cons.injEq] at e
        rw [e.1]; rfl
    have hB6 : ∀ M : Sto, M a2 = some (.cells (.i .i64 k :: cs.tail) false) → ∃ i, frzW (der M 24) (.ms a2 0 s.md.length 1) = some (sV cI (k :: ms), i) := fun M h => by
      have hlen : (k :: ms).length = s.md.length := by rw [hmd]; rfl
      refine ⟨_, (Bf.memr (f := cI) (k := 1) (lo := 0) (x := x1) (l := k :: ms) h ⟨?_, ?_, ?_⟩ hlen.symm (by omega) w4).fz24⟩
      · rw [hlen]; have := wR.le; simp; omega
      · have e := wR.eq
        rw [hcs, hmd] at e
        simp only [List.length_cons, Nat.succ_mul, Nat.mul_one, List.flatMap_cons, cI, List.cons_append, List.nil_append, List.take_succ_cons, List.cons.injEq] at e ⊢
        exact ⟨trivial, e.2⟩
      · intro D
        have e := wR.fz D
        rw [hcs] at e
        rw [frzL_cons] at e ⊢
        simp at e ⊢
        cases h : frzL D cs.tail with
        | none => rw [h] at e; simp at e
        | some q =>
          rw [h] at e
          simp at e ⊢
          exact e
    simp +contextual (disch := omega) [Nat.add_assoc, Int.add_assoc, if_pos, if_neg, -Int.not_lt, -Int.not_le, -Nat.not_lt, -Nat.not_le, -List.length_flatMap, ansK hA0, er, -frzW_ms, w2, hp, hc1]
    generalize hMM : Sto.set _ a2 _ = M
    have hj : ∀ j, j < x1 → j ≠ a2 → M j = m1 j := fun j h h' => by rw [← hMM]; simp +contextual (disch := omega) [Nat.add_assoc, Int.add_assoc, if_pos, if_neg, -Int.not_lt, -Int.not_le, -Nat.not_lt, -Nat.not_le, -List.length_flatMap]
    obtain ⟨_, f1, _⟩ := ((hS1 a2 _ rfl).up (m' := M) (Nat.le_refl _) (Nat.le_refl _) (fun j q1 q2 => hj j q2 (by omega))).rc.fz24
    obtain ⟨_, f2⟩ := hB6 M (by rw [← hMM]; simp +contextual (disch := omega) [Nat.add_assoc, Int.add_assoc, if_pos, if_neg, -Int.not_lt, -Int.not_le, -Nat.not_lt, -Nat.not_le, -List.length_flatMap])
    obtain ⟨_, f3⟩ := hC M cc (by rw [← hMM, hcc]; simp +contextual (disch := omega) [Nat.add_assoc, Int.add_assoc, if_pos, if_neg, -Int.not_lt, -Int.not_le, -Nat.not_lt, -Nat.not_le, -List.length_flatMap]) lc
    obtain ⟨_, f4⟩ := hB M bb (by rw [← hMM, hbb]; simp +contextual (disch := omega) [Nat.add_assoc, Int.add_assoc, if_pos, if_neg, -Int.not_lt, -Int.not_le, -Nat.not_lt, -Nat.not_le, -List.length_flatMap]; rfl) lb
    simp +contextual (disch := omega) [Nat.add_assoc, Int.add_assoc, if_pos, if_neg, -Int.not_lt, -Int.not_le, -Nat.not_lt, -Nat.not_le, -List.length_flatMap, f1, f2, f3, f4, -frzW_ms, ansK (hT ⟨s.vars, s.cl, k :: ms⟩ cc ⟨0, 0⟩ bb ⟨hfew.1, hfew.2.1, by have := hfew.2.2.1; rw [hmd] at this; exact this, hfew.2.2.2⟩ (by omega) lf (by omega))]
  · simp +contextual (disch := omega) [Nat.add_assoc, Int.add_assoc, if_pos, if_neg, -Int.not_lt, -Int.not_le, -Nat.not_lt, -Nat.not_le, -List.length_flatMap, ansK hA0, er, -frzW_ms]
    generalize hMM : Sto.set _ x1 _ = M
    have hj : ∀ j, j < x1 → M j = m1 j := fun j h => by rw [← hMM]; simp +contextual (disch := omega) [Nat.add_assoc, Int.add_assoc, if_pos, if_neg, -Int.not_lt, -Int.not_le, -Nat.not_lt, -Nat.not_le, -List.length_flatMap]
    obtain ⟨_, f1⟩ := hX M hj
    obtain ⟨_, f2⟩ := hM M hj
    obtain ⟨_, f3⟩ := hC M cc (by rw [← hMM, hcc]; simp +contextual (disch := omega) [Nat.add_assoc, Int.add_assoc, if_pos, if_neg, -Int.not_lt, -Int.not_le, -Nat.not_lt, -Nat.not_le, -List.length_flatMap]) lc
    obtain ⟨_, f4⟩ := hB M bb (by rw [← hMM, hbb]; simp +contextual (disch := omega) [Nat.add_assoc, Int.add_assoc, if_pos, if_neg, -Int.not_lt, -Int.not_le, -Nat.not_lt, -Nat.not_le, -List.length_flatMap]; rfl) lb
    simp +contextual (disch := omega) [Nat.add_assoc, Int.add_assoc, if_pos, if_neg, -Int.not_lt, -Int.not_le, -Nat.not_lt, -Nat.not_le, -List.length_flatMap, f1, f2, f3, f4, -frzW_ms, ansK (hT ⟨k, s.cl, s.md⟩ cc ⟨0, 0⟩ bb hfew (by omega) lf (by omega))]
  · simp +contextual (disch := omega) [Nat.add_assoc, Int.add_assoc, if_pos, if_neg, -Int.not_lt, -Int.not_le, -Nat.not_lt, -Nat.not_le, -List.length_flatMap, ansK hA0, ansK hA1, er, -frzW_ms, -apV_ns]
    generalize hMM : Sto.set _ (x1 + 20) _ = M
    have hj : ∀ j, j < x1 → M j = m1 j := fun j h => by rw [← hMM]; simp +contextual (disch := omega) [Nat.add_assoc, Int.add_assoc, if_pos, if_neg, -Int.not_lt, -Int.not_le, -Nat.not_lt, -Nat.not_le, -List.length_flatMap]
    have e1 : M x1 = some (.cells [.i .i64 s.vars, B1, .ms a2 0 s.md.length 1] false) := by rw [← hMM]; simp +contextual (disch := omega) [Nat.add_assoc, Int.add_assoc, if_pos, if_neg, -Int.not_lt, -Int.not_le, -Nat.not_lt, -Nat.not_le, -List.length_flatMap]
    have e2 : M (x1 + 2) = some (.cells (cc.flatMap cC) false) := by rw [← hMM, hcc]; simp +contextual (disch := omega) [Nat.add_assoc, Int.add_assoc, if_pos, if_neg, -Int.not_lt, -Int.not_le, -Nat.not_lt, -Nat.not_le, -List.length_flatMap]
    have e6 : M (x1 + 6) = some (.cells (bb.flatMap cA) false) := by rw [← hMM, hbb]; simp +contextual (disch := omega) [Nat.add_assoc, Int.add_assoc, if_pos, if_neg, -Int.not_lt, -Int.not_le, -Nat.not_lt, -Nat.not_le, -List.length_flatMap]; rfl
    have e7 : M (x1 + 7) = some (.cells [.i .i64 0, .i .i64 0] false) := by rw [← hMM]; simp +contextual (disch := omega) [Nat.add_assoc, Int.add_assoc, if_pos, if_neg, -Int.not_lt, -Int.not_le, -Nat.not_lt, -Nat.not_le, -List.length_flatMap]
    clear hMM
    refine (hXs.xa.up (m' := M) (A' := fun j => a2 < j ∧ j < x1) (fun j h => hj j h.2) (fun j h => ⟨by omega, h.2⟩)).ap (G := fun _ => False) (dl := [⟨[⟨0, 0⟩], ⟨0, 1⟩⟩]) (gs := [sV cA [⟨0, 0⟩]]) rfl rfl (Fr.sv _ _ [⟨[⟨0, 0⟩], ⟨0, 1⟩⟩]) (fun _ _ h => h) (by omega) (fun h => h) (by have := hfew.2.1; simp; omega) ?_
    intro B' ws m2 p0 p1 p2
    have t1 := (p2 x1 (by omega) (by omega)).trans e1
    have t7 := (p2 (x1 + 7) (by omega) (by omega)).trans e7
    simp +contextual (disch := omega) [Nat.add_assoc, Int.add_assoc, if_pos, if_neg, -Int.not_lt, -Int.not_le, -Nat.not_lt, -Nat.not_le, -List.length_flatMap, p0, t1, t7, p1.rc.stor, p1.rc.cells, -frzW_ms]
    generalize hMM : Sto.set m2 x1 _ = M2
    have hj2 : ∀ j, ¬ (a2 < j ∧ j < x1) → j ≠ x1 + 21 → j ≠ x1 → M2 j = M j := fun j h1 h2 h3 => by rw [← hMM, Sto.sne _ _ _ _ h3, p2 j h1 h2]
    obtain ⟨_, f1, _⟩ := (p1.rc.up (m' := M2) (.eq fun j h => by rw [← hMM, Sto.sne _ _ _ _ (by have h := or3 h; omega)]) (fun j h => h)).fz24
    obtain ⟨_, f2⟩ : ∃ i, frzW (der M2 24) (.ms a2 0 s.md.length 1) = some (sV cI s.md, i) := ⟨_, (Bf.memr (f := cI) (k := 1) (lo := 0) (x := x1) (l := s.md) ((hj2 a2 (by omega) (by omega) (by omega)).trans ((hj a2 w4).trans w2)) wR rfl (by omega) w4).fz24⟩
    obtain ⟨_, f3⟩ := hC M2 cc ((hj2 _ (by omega) (by omega) (by omega)).trans e2) lc
    obtain ⟨_, f4⟩ := hB M2 bb ((hj2 _ (by omega) (by omega) (by omega)).trans e6) lb
    have hfew2 : St.Few ⟨s.vars, s.cl ++ [⟨[⟨0, 0⟩], ⟨0, 1⟩⟩], s.md⟩ := hF _ _ _ (by simp; omega) (fun c hc => by
      rcases List.mem_append.1 hc with h | h
      · exact hfr c h
      · rw [List.mem_singleton.1 h]; simp) hfew.2.2.1
    simp +contextual (disch := omega) [Nat.add_assoc, Int.add_assoc, if_pos, if_neg, -Int.not_lt, -Int.not_le, -Nat.not_lt, -Nat.not_le, -List.length_flatMap, f1, f2, f3, f4, -frzW_ms, ansK (hT ⟨s.vars, s.cl ++ [⟨[⟨0, 0⟩], ⟨0, 1⟩⟩], s.md⟩ cc ⟨0, 0⟩ bb hfew2 (by omega) lf (by omega))]
  · simp +contextual (disch := omega) [Nat.add_assoc, Int.add_assoc, if_pos, if_neg, -Int.not_lt, -Int.not_le, -Nat.not_lt, -Nat.not_le, -List.length_flatMap, ansK hA0, er, -frzW_ms]
    generalize hMM : Sto.set _ (x1 + 2) _ = M
    have hj : ∀ j, j < x1 → M j = m1 j := fun j h => by rw [← hMM]; simp +contextual (disch := omega) [Nat.add_assoc, Int.add_assoc, if_pos, if_neg, -Int.not_lt, -Int.not_le, -Nat.not_lt, -Nat.not_le, -List.length_flatMap]
    obtain ⟨_, f1⟩ := hX M hj
    obtain ⟨_, f2⟩ := hM M hj
    clear lf
    obtain ⟨cc, hcc⟩ : ∃ cc : List C, cc = [⟨[⟨0, 0⟩], ⟨k, 0⟩⟩] := ⟨_, rfl⟩
    have lc : cc.length = 1 := by rw [hcc]; rfl
    have lf : ∀ d ∈ cc, d.frm.length ≤ 1000 := by rw [hcc]; simp
    obtain ⟨_, f3⟩ := hC M cc (by rw [← hMM, hcc]; simp +contextual (disch := omega) [Nat.add_assoc, Int.add_assoc, if_pos, if_neg, -Int.not_lt, -Int.not_le, -Nat.not_lt, -Nat.not_le, -List.length_flatMap]; rfl) lc
    obtain ⟨_, f4⟩ := hB M bb (by rw [← hMM, hbb]; simp +contextual (disch := omega) [Nat.add_assoc, Int.add_assoc, if_pos, if_neg, -Int.not_lt, -Int.not_le, -Nat.not_lt, -Nat.not_le, -List.length_flatMap]; rfl) lb
    simp +contextual (disch := omega) [Nat.add_assoc, Int.add_assoc, if_pos, if_neg, -Int.not_lt, -Int.not_le, -Nat.not_lt, -Nat.not_le, -List.length_flatMap, f1, f2, f3, f4, -frzW_ms, ansK (hT ⟨s.vars, s.cl, s.md⟩ cc ⟨0, 0⟩ bb hfew (by omega) lf (by omega))]
  · obtain ⟨q, hq⟩ : ∃ q, q = how / 8 % 4 := ⟨_, rfl⟩
    have eq : ((how : Int) / 8).tmod 4 = (q : Nat) := by
      rw [hq, Int.tmod_eq_emod_of_nonneg (by omega)]; rfl
    have hq4 : q < 4 := by omega
    simp +contextual (disch := omega) [Nat.add_assoc, Int.add_assoc, if_pos, if_neg, -Int.not_lt, -Int.not_le, -Nat.not_lt, -Nat.not_le, -List.length_flatMap, ansK hA0, er, -frzW_ms]
    obtain ⟨Z, hZ⟩ : ∃ Z : Nat → Prop, Z = fun j => j ≠ x1 ∧ j ≠ x1 + 2 ∧ j ≠ x1 + 7 := ⟨_, rfl⟩
    have hZ' : ∀ j, Z j → j ≠ x1 ∧ j ≠ x1 + 2 ∧ j ≠ x1 + 7 := fun j h => by rw [hZ] at h; exact h
    have hZZ : ∀ j, j < x1 ∨ x1 + 8 ≤ j → Z j := fun j h => by rw [hZ]; exact ⟨by omega, by omega, by omega⟩
    clear hZ
    obtain ⟨N, hN⟩ : ∃ N, s.cl.length + N = 57 + q := ⟨57 + q - s.cl.length, by omega⟩
    refine for_w (fun i e m x => e 2 = .i .u8 how ∧ e 9 = .p x1 0 ∧ e 10 = .ms (x1 + 2) 0 1 3 ∧ e 11 = .p (x1 + 7) 0 ∧ x1 + 8 ≤ x ∧ m a2 = some (.cells cs false) ∧ m (x1 + 2) = some (.cells (cc.flatMap cC) false) ∧ m (x1 + 7) = some (.cells [.i .i64 0, .i .i64 0] false) ∧
      ∃ B ls gs', m x1 = some (.cells [.i .i64 s.vars, B, .ms a2 0 s.md.length 1] false) ∧ Xa (fun j => a2 < j ∧ j < x ∧ Z j) m B ls gs' ∧ ls.length = s.cl.length + i ∧ ∀ c ∈ ls, c.frm.length ≤ 1000) N ?_ ?_ ?_
    · simp +contextual (disch := omega) [Nat.add_assoc, Int.add_assoc, if_pos, if_neg, -Int.not_lt, -Int.not_le, -Nat.not_lt, -Nat.not_le, -List.length_flatMap, w2]
      refine ⟨by rw [hcc]; rfl, s.cl, ⟨gs, ?_⟩, rfl, hfr⟩
      exact hXs.xa.up (fun j h => by simp +contextual (disch := omega) [Nat.add_assoc, Int.add_assoc, if_pos, if_neg, -Int.not_lt, -Int.not_le, -Nat.not_lt, -Nat.not_le, -List.length_flatMap]) (fun j h => ⟨by omega, by omega, hZZ j (.inl h.2)⟩)
    · rintro i e m x hi ⟨g2, g9, g10, g11, hx, y2, yc, y7, B, ls, gs', y1, yX, yl, yf⟩
      have hlt : (ls.length : Int) < 57 + q := by omega
      have hlb := yX.rc.len
      simp +contextual (disch := omega) [Nat.add_assoc, Int.add_assoc, if_pos, if_neg, -Int.not_lt, -Int.not_le, -Nat.not_lt, -Nat.not_le, -List.length_flatMap, law11_StoreSpoilt.b1, g2, g9, g10, g11, y1, y2, yc, y7, eq, hlb, hlt, ansK hA0, -apV_ns]
      generalize hMM : Sto.set m (x + 11) _ = M
      have hj : ∀ j, j < x + 11 → M j = m j := fun j h => by rw [← hMM]; simp +contextual (disch := omega) [Nat.add_assoc, Int.add_assoc, if_pos, if_neg, -Int.not_lt, -Int.not_le, -Nat.not_lt, -Nat.not_le, -List.length_flatMap]
      clear hMM
      refine (yX.up (m' := M) (fun j h => hj j (by omega)) (fun j h => h)).ap (G := fun _ => False) (dl := [⟨[⟨0, 0⟩], ⟨0, 0⟩⟩]) (gs := [sV cA [⟨0, 0⟩]]) rfl rfl (Fr.sv _ _ [⟨[⟨0, 0⟩], ⟨0, 0⟩⟩]) (fun _ _ h => h) (by omega) (fun h => h) (by simp; omega) ?_
      intro B' ws m2 p0 p1 p2
      have far : ∀ j, (j = a2 ∨ j = x1 ∨ j = x1 + 2 ∨ j = x1 + 7) → m2 j = m j := fun j h => (p2 j (fun hh => by have := hZ' j hh.2.2; omega) (by omega)).trans (hj j (by omega))
      have t1 := (far x1 (by omega)).trans y1
      have t2 := (far a2 (by omega)).trans y2
      have tc := (far (x1 + 2) (by omega)).trans yc
      have t7 := (far (x1 + 7) (by omega)).trans y7
      simp +contextual (disch := omega) [Nat.add_assoc, Int.add_assoc, if_pos, if_neg, -Int.not_lt, -Int.not_le, -Nat.not_lt, -Nat.not_le, -List.length_flatMap, p0, t1, t2, tc, t7, p1.rc.stor, p1.rc.cells, g2, g9, g10, g11]
      refine ⟨by omega, _, ⟨_, p1.up (A' := fun j => a2 < j ∧ j < x + 15 ∧ Z j) (fun j h => ?_) (fun j h => ?_)⟩, by simp; omega, fun c hc => ?_⟩
      · have h' := or3 h
        rcases h' with h' | h'
        · rw [Sto.sne _ _ _ _ (by have := hZ' j h'.2.2; omega)]
        · rw [Sto.sne _ _ _ _ (by omega)]
      · rcases or3 h with h' | h'
        · exact ⟨h'.1, by omega, h'.2.2⟩
        · exact ⟨by omega, by omega, hZZ j (by omega)⟩
      · rcases List.mem_append.1 hc with h | h
        · exact yf c h
        · rw [List.mem_singleton.1 h]; simp
    · rintro e m x ⟨g2, g9, g10, g11, hx, y2, yc, y7, B, ls, gs', y1, yX, yl, yf⟩
      have hge : ¬ (ls.length : Int) < 57 + q := by omega
      have hBc : Bf m (.ms (x1 + 2) 0 1 3) cC 3 [⟨[⟨0, 0⟩], ⟨0, 0⟩⟩] (x1 + 2) (x1 + 3) := Bf.mem (yc.trans (by rw [hcc])) rfl rfl (by omega) (by omega)
      have yc : m (x1 + 2) = some (.cells [sV cA [⟨0, 0⟩], .i .i64 0, .i .i64 0] false) := by rw [yc, hcc]; rfl
      have hlb := yX.rc.len
      simp +contextual (disch := omega) [Nat.add_assoc, Int.add_assoc, if_pos, if_neg, -Int.not_lt, -Int.not_le, -Nat.not_lt, -Nat.not_le, -List.length_flatMap, law11_StoreSpoilt.b1, g2, g9, g10, g11, y1, y2, yc, y7, eq, hlb, hge, -apV_ms]
      generalize hMM : Sto.set _ (x + 21) _ = M
      have hj : ∀ j, j < x + 12 → M j = m j := fun j h => by rw [← hMM]; simp +contextual (disch := omega) [Nat.add_assoc, Int.add_assoc, if_pos, if_neg, -Int.not_lt, -Int.not_le, -Nat.not_lt, -Nat.not_le, -List.length_flatMap]
      have eb : M (x + 12) = some (.cells ([(⟨0, 0⟩ : A), ⟨0, 1⟩, ⟨0, 2⟩].flatMap cA) false) := by rw [← hMM]; simp +contextual (disch := omega) [Nat.add_assoc, Int.add_assoc, if_pos, if_neg, -Int.not_lt, -Int.not_le, -Nat.not_lt, -Nat.not_le, -List.length_flatMap]; rfl
      clear hMM
      refine hBc.ap [⟨[⟨0, 0⟩], ⟨0, 0⟩⟩, ⟨[⟨0, 0⟩], ⟨0, 0⟩⟩] (fun j h1 h2 => hj j (by omega)) (by omega) (by omega) rfl rfl (by simp) ?_
      intro B' ws m2 z0 z1 z2 z3
      have far : ∀ j, j < x + 12 → j ≠ x1 + 2 → m2 j = m j := fun j h1 h2 => by
        by_cases h : j < x1 + 2
        · exact (z2 j h).trans (hj j h1)
        · exact (z3 j (by omega) (by omega)).trans (hj j h1)
      have t1 := (far x1 (by omega) (by omega)).trans y1
      have t7 := (far (x1 + 7) (by omega) (by omega)).trans y7
      obtain ⟨_, f1, _⟩ := (yX.up (m' := m2) (A' := fun j => a2 < j ∧ j < x ∧ Z j) (fun j h => far j (by omega) (by have := hZ' j h.2.2; omega)) (fun j h => h)).rc.fz24
      obtain ⟨_, f2⟩ : ∃ i, frzW (der m2 24) (.ms a2 0 s.md.length 1) = some (sV cI s.md, i) := ⟨_, (Bf.memr (f := cI) (k := 1) (lo := 0) (x := x1) (l := s.md) ((far a2 (by omega) (by omega)).trans y2) wR rfl (by omega) w4).fz24⟩
      have f3 := z1.fz24
      obtain ⟨_, f4⟩ : ∃ i, frzW (der m2 24) (.ms (x + 12) 0 3 2) = some (sV cA [(⟨0, 0⟩ : A), ⟨0, 1⟩, ⟨0, 2⟩], i) := ⟨_, (Bf.mem (f := cA) (k := 2) (lo := 0) (x := x + 13) (l := [(⟨0, 0⟩ : A), ⟨0, 1⟩, ⟨0, 2⟩]) ((z3 (x + 12) (by omega) (by omega)).trans eb) rfl rfl (by omega) (by omega)).fz24⟩
      obtain ⟨bb, hbb⟩ : ∃ bb, bb = [(⟨0, 0⟩ : A), ⟨0, 1⟩, ⟨0, 2⟩] := ⟨_, rfl⟩
      obtain ⟨c3, hc3⟩ : ∃ c3, c3 = [(⟨[⟨0, 0⟩], ⟨0, 0⟩⟩ : C)] ++ [⟨[⟨0, 0⟩], ⟨0, 0⟩⟩, ⟨[⟨0, 0⟩], ⟨0, 0⟩⟩] := ⟨_, rfl⟩
      rw [← hbb] at f4
      rw [← hc3] at f3
      simp +contextual (disch := omega) [Nat.add_assoc, Int.add_assoc, if_pos, if_neg, -Int.not_lt, -Int.not_le, -Nat.not_lt, -Nat.not_le, -List.length_flatMap, z0, t1, t7, g2, g9, g10, g11, z1.stor, z1.cells, f1, f2, f3, f4, -frzW_ms, ansK (hT ⟨s.vars, ls, s.md⟩ c3 ⟨0, 0⟩ bb (hF _ _ _ (by omega) yf hfew.2.2.1) (by rw [hc3]; simp) (by rw [hc3]; simp) (by rw [hbb]; simp))]
  · simp +contextual (disch := omega) [Nat.add_assoc, Int.add_assoc, if_pos, if_neg, -Int.not_lt, -Int.not_le, -Nat.not_lt, -Nat.not_le, -List.length_flatMap, ansK hA0, er, -frzW_ms]
    generalize hMM : Sto.set _ (x1 + 6) _ = M
    have hj : ∀ j, j < x1 → M j = m1 j := fun j h => by rw [← hMM]; simp +contextual (disch := omega) [Nat.add_assoc, Int.add_assoc, if_pos, if_neg, -Int.not_lt, -Int.not_le, -Nat.not_lt, -Nat.not_le, -List.length_flatMap]
    obtain ⟨_, f1⟩ := hX M hj
    obtain ⟨_, f2⟩ := hM M hj
    obtain ⟨bb, hbb⟩ : ∃ bb : List A, bb = [⟨0, 1000⟩] := ⟨_, rfl⟩
    have lb : bb.length = 1 := by rw [hbb]; rfl
    obtain ⟨_, f3⟩ := hC M cc (by rw [← hMM, hcc]; simp +contextual (disch := omega) [Nat.add_assoc, Int.add_assoc, if_pos, if_neg, -Int.not_lt, -Int.not_le, -Nat.not_lt, -Nat.not_le, -List.length_flatMap]) lc
    obtain ⟨_, f4⟩ := hB M bb (by rw [← hMM, hbb]; simp +contextual (disch := omega) [Nat.add_assoc, Int.add_assoc, if_pos, if_neg, -Int.not_lt, -Int.not_le, -Nat.not_lt, -Nat.not_le, -List.length_flatMap]; rfl) lb
    simp +contextual (disch := omega) [Nat.add_assoc, Int.add_assoc, if_pos, if_neg, -Int.not_lt, -Int.not_le, -Nat.not_lt, -Nat.not_le, -List.length_flatMap, f1, f2, f3, f4, -frzW_ms, ansK (hT ⟨s.vars, s.cl, s.md⟩ cc ⟨0, 0⟩ bb hfew (by omega) lf (by omega))]
  · simp +contextual (disch := omega) [Nat.add_assoc, Int.add_assoc, if_pos, if_neg, -Int.not_lt, -Int.not_le, -Nat.not_lt, -Nat.not_le, -List.length_flatMap, ansK hA0, er, -frzW_ms, -apV_ns, -apV_ms]
    generalize hMM : Sto.set _ (x1 + 28) _ = M
    have hj : ∀ j, j < x1 → M j = m1 j := fun j h => by rw [← hMM]; simp +contextual (disch := omega) [Nat.add_assoc, Int.add_assoc, if_pos, if_neg, -Int.not_lt, -Int.not_le, -Nat.not_lt, -Nat.not_le, -List.length_flatMap]
    have e1 : M x1 = some (.cells [.i .i64 s.vars, B1, .ms a2 0 s.md.length 1] false) := by rw [← hMM]; simp +contextual (disch := omega) [Nat.add_assoc, Int.add_assoc, if_pos, if_neg, -Int.not_lt, -Int.not_le, -Nat.not_lt, -Nat.not_le, -List.length_flatMap]
    have e2 : M (x1 + 2) = some (.cells (cc.flatMap cC) false) := by rw [← hMM, hcc]; simp +contextual (disch := omega) [Nat.add_assoc, Int.add_assoc, if_pos, if_neg, -Int.not_lt, -Int.not_le, -Nat.not_lt, -Nat.not_le, -List.length_flatMap]
    have e6 : M (x1 + 6) = some (.cells (bb.flatMap cA) false) := by rw [← hMM, hbb]; simp +contextual (disch := omega) [Nat.add_assoc, Int.add_assoc, if_pos, if_neg, -Int.not_lt, -Int.not_le, -Nat.not_lt, -Nat.not_le, -List.length_flatMap]; rfl
    have e7 : M (x1 + 7) = some (.cells [.i .i64 0, .i .i64 0] false) := by rw [← hMM]; simp +contextual (disch := omega) [Nat.add_assoc, Int.add_assoc, if_pos, if_neg, -Int.not_lt, -Int.not_le, -Nat.not_lt, -Nat.not_le, -List.length_flatMap]
    clear hMM
    have hBf : Bf m1 (.ms a2 0 s.md.length 1) cI 1 s.md 0 (a2 + 1) := Bf.memr w2 wR rfl (by omega) (by omega)
    refine hBf.ap [0] (fun j h1 h2 => hj j (by omega)) (by omega) (by omega) rfl rfl (by have := hfew.2.2.1; simp; omega) ?_
    intro B' ws m2 z0 z1 z2 z3
    have t1 := (z3 x1 (by omega) (by omega)).trans e1
    have t7 := (z3 (x1 + 7) (by omega) (by omega)).trans e7
    simp +contextual (disch := omega) [Nat.add_assoc, Int.add_assoc, if_pos, if_neg, -Int.not_lt, -Int.not_le, -Nat.not_lt, -Nat.not_le, -List.length_flatMap, z0, t1, t7, z1.stor, z1.cells, -frzW_ms]
    generalize hMM : Sto.set m2 x1 _ = M2
    have hj2 : ∀ j, a2 + 1 ≤ j → j < x1 + 28 → j ≠ x1 → M2 j = M j := fun j h1 h2 h3 => by rw [← hMM, Sto.sne _ _ _ _ h3, z3 j h1 (by omega)]
    obtain ⟨_, f1, _⟩ := (hXs.up (m' := M2) (Nat.le_refl _) (Nat.le_refl _) (fun j h1 h2 => (hj2 j h1 (by omega) (by omega)).trans (hj j h2))).rc.fz24
    obtain ⟨_, f2⟩ : ∃ i, frzW (der M2 24) B' = some (sV cI (s.md ++ [0]), i) := by
      rcases z1 with ⟨_, h⟩ | ⟨b, cs', rfl, y2, yR, y3, y4⟩
      · simp at h
      · have hb1 : b ≠ x1 := by
          intro e
          subst e
          rw [t1] at y2
          simp only [Option.some.injEq, PObj.cells.injEq, and_true] at y2
          have e := congrArg (fun l => l[1]?) yR.eq
          rw [← y2, hmd] at e
          have hlb := hX1.rc.len
          cases ms with
          | nil => simp [cI] at e; rw [e] at hlb; cases hlb
          | cons m1' ms' => simp [cI] at e; rw [e] at hlb; cases hlb
        exact ⟨_, (Bf.memr (f := cI) (k := 1) (lo := 0) (x := x1 + 30) (l := s.md ++ [0]) (by rw [← hMM, Sto.sne _ _ _ _ hb1, y2]) yR rfl (by omega) (by omega)).fz24⟩
    obtain ⟨_, f3⟩ := hC M2 cc ((hj2 _ (by omega) (by omega) (by omega)).trans e2) lc
    obtain ⟨_, f4⟩ := hB M2 bb ((hj2 _ (by omega) (by omega) (by omega)).trans e6) lb
    simp +contextual (disch := omega) [Nat.add_assoc, Int.add_assoc, if_pos, if_neg, -Int.not_lt, -Int.not_le, -Nat.not_lt, -Nat.not_le, -List.length_flatMap, f1, f2, f3, f4, -frzW_ms, ansK (hT ⟨s.vars, s.cl, s.md ++ [0]⟩ cc ⟨0, 0⟩ bb (hF _ _ _ hfew.2.1 hfr (by have := hml; simp; omega)) (by omega) lf (by omega))]
  · by_cases k1 : 20 < k
    · by_cases k2 : k ≤ 1000
      · simp +contextual (disch := omega) [Nat.add_assoc, Int.add_assoc, if_pos, if_neg, -Int.not_lt, -Int.not_le, -Nat.not_lt, -Nat.not_le, -List.length_flatMap, ansK hA0, er, -frzW_ms, k1, k2]
        generalize hMM : Sto.set _ (x1 + 7) _ = M
        have hj : ∀ j, j < x1 → M j = m1 j := fun j h => by rw [← hMM]; simp +contextual (disch := omega) [Nat.add_assoc, Int.add_assoc, if_pos, if_neg, -Int.not_lt, -Int.not_le, -Nat.not_lt, -Nat.not_le, -List.length_flatMap]
        obtain ⟨_, f1⟩ := hX M hj
        obtain ⟨_, f2⟩ := hM M hj
        obtain ⟨_, f3⟩ := hC M cc (by rw [← hMM, hcc]; simp +contextual (disch := omega) [Nat.add_assoc, Int.add_assoc, if_pos, if_neg, -Int.not_lt, -Int.not_le, -Nat.not_lt, -Nat.not_le, -List.length_flatMap]) lc
        obtain ⟨_, f4⟩ := hB M bb (by rw [← hMM, hbb]; simp +contextual (disch := omega) [Nat.add_assoc, Int.add_assoc, if_pos, if_neg, -Int.not_lt, -Int.not_le, -Nat.not_lt, -Nat.not_le, -List.length_flatMap]; rfl) lb
        simp +contextual (disch := omega) [Nat.add_assoc, Int.add_assoc, if_pos, if_neg, -Int.not_lt, -Int.not_le, -Nat.not_lt, -Nat.not_le, -List.length_flatMap, f1, f2, f3, f4, -frzW_ms, ansK (hT ⟨s.vars, s.cl, s.md⟩ cc ⟨0, 20⟩ bb hfew (by omega) lf (by omega))]
      · simp +contextual (disch := omega) [Nat.add_assoc, Int.add_assoc, if_pos, if_neg, -Int.not_lt, -Int.not_le, -Nat.not_lt, -Nat.not_le, -List.length_flatMap, ansK hA0, er, -frzW_ms, k1, k2]
        generalize hMM : Sto.set _ (x1 + 7) _ = M
        have hj : ∀ j, j < x1 → M j = m1 j := fun j h => by rw [← hMM]; simp +contextual (disch := omega) [Nat.add_assoc, Int.add_assoc, if_pos, if_neg, -Int.not_lt, -Int.not_le, -Nat.not_lt, -Nat.not_le, -List.length_flatMap]
        obtain ⟨_, f1⟩ := hX M hj
        obtain ⟨_, f2⟩ := hM M hj
        obtain ⟨_, f3⟩ := hC M cc (by rw [← hMM, hcc]; simp +contextual (disch := omega) [Nat.add_assoc, Int.add_assoc, if_pos, if_neg, -Int.not_lt, -Int.not_le, -Nat.not_lt, -Nat.not_le, -List.length_flatMap]) lc
        obtain ⟨_, f4⟩ := hB M bb (by rw [← hMM, hbb]; simp +contextual (disch := omega) [Nat.add_assoc, Int.add_assoc, if_pos, if_neg, -Int.not_lt, -Int.not_le, -Nat.not_lt, -Nat.not_le, -List.length_flatMap]; rfl) lb
        simp +contextual (disch := omega) [Nat.add_assoc, Int.add_assoc, if_pos, if_neg, -Int.not_lt, -Int.not_le, -Nat.not_lt, -Nat.not_le, -List.length_flatMap, f1, f2, f3, f4, -frzW_ms, ansK (hT ⟨s.vars, s.cl, s.md⟩ cc ⟨0, k⟩ bb hfew (by omega) lf (by omega))]
    · simp +contextual (disch := omega) [Nat.add_assoc, Int.add_assoc, if_pos, if_neg, -Int.not_lt, -Int.not_le, -Nat.not_lt, -Nat.not_le, -List.length_flatMap, ansK hA0, er, -frzW_ms, k1]
      generalize hMM : Sto.set _ (x1 + 7) _ = M
      have hj : ∀ j, j < x1 → M j = m1 j := fun j h => by rw [← hMM]; simp +contextual (disch := omega) [Nat.add_assoc, Int.add_assoc, if_pos, if_neg, -Int.not_lt, -Int.not_le, -Nat.not_lt, -Nat.not_le, -List.length_flatMap]
      obtain ⟨_, f1⟩ := hX M hj
      obtain ⟨_, f2⟩ := hM M hj
      obtain ⟨_, f3⟩ := hC M cc (by rw [← hMM, hcc]; simp +contextual (disch := omega) [Nat.add_assoc, Int.add_assoc, if_pos, if_neg, -Int.not_lt, -Int.not_le, -Nat.not_lt, -Nat.not_le, -List.length_flatMap]) lc
      obtain ⟨_, f4⟩ := hB M bb (by rw [← hMM, hbb]; simp +contextual (disch := omega) [Nat.add_assoc, Int.add_assoc, if_pos, if_neg, -Int.not_lt, -Int.not_le, -Nat.not_lt, -Nat.not_le, -List.length_flatMap]; rfl) lb
      simp +contextual (disch := omega) [Nat.add_assoc, Int.add_assoc, if_pos, if_neg, -Int.not_lt, -Int.not_le, -Nat.not_lt, -Nat.not_le, -List.length_flatMap, f1, f2, f3, f4, -frzW_ms, ansK (hT ⟨s.vars, s.cl, s.md⟩ cc ⟨0, k⟩ bb hfew (by omega) lf (by omega))]
end Pi
