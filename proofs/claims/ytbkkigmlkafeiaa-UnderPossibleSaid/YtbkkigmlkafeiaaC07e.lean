/- Contracts: levels by cases (layer 7): the document's Leq, Equal. -/
import Derived.Test.YtbkkigmlkafeiaaC12d
import Derived.Test.YtbkkigmlkafeiaaC09d
set_option linter.unusedSimpArgs false
set_option linter.unusedVariables false
namespace Pi
end Pi


set_option linter.unusedSimpArgs false
set_option linter.unusedVariables false
namespace Pi
end Pi


set_option linter.unusedSimpArgs false
set_option linter.unusedVariables false
namespace Pi
def wP : L := .mk 5 0 []
def wQ : L := .mk 5 1 []
def wS : L := .mk 2 0 [wP]
def wT : L := .mk 2 0 [wQ]
theorem aw1 : leqOU [⟨wP, wQ⟩] 2 wP wT = none ∧ leqBU [⟨wP, wQ⟩] 2 wP wT = true ∧ leqEU [⟨wP, wQ⟩] 2 wP wT = 0 := ⟨by kernel_rfl, by kernel_rfl, by kernel_rfl⟩
theorem aw2 : leqOU [⟨wP, wQ⟩] 2 wS wQ = some [1, 1] ∧ leqBU [⟨wP, wQ⟩] 2 wS wQ = false ∧ leqEU [⟨wP, wQ⟩] 2 wS wQ = 0 := ⟨by kernel_rfl, by kernel_rfl, by kernel_rfl⟩
theorem aw3 : possV [⟨wP, wQ⟩, ⟨wT, wP⟩] 2 = .tu [.b false, sV cI [], .i .i64 0] := by kernel_rfl
theorem aw4 : possV [⟨wP, wQ⟩] 2 = .tu [.b true, sV cI [1, 1], .i .i64 0] := by kernel_rfl
theorem aw5 : leqOU [⟨wP, wQ⟩] 1 wP wP = none ∧ leqBU [⟨wP, wQ⟩] 1 wP wP = false ∧ leqEU [⟨wP, wQ⟩] 1 wP wP = 1 := ⟨by kernel_rfl, by kernel_rfl, by kernel_rfl⟩
theorem aw6 : RightU [⟨wP, wQ⟩] 2 = true := by kernel_rfl
theorem aw7 : RightU [⟨wP, wQ⟩] 6 = false := by kernel_rfl
theorem L_ok0 (k n : Int) (hk : 0 ≤ k ∧ k ≤ 10) (hn : 0 ≤ n ∧ n ≤ 10) : (L.mk k n []).Ok := .mk (by simp) (by omega) (by omega) (by simp)
theorem wP_ok : wP.Ok := L_ok0 5 0 (by omega) (by omega)
theorem wQ_ok : wQ.Ok := L_ok0 5 1 (by omega) (by omega)
theorem wS_ok : wS.Ok := .mk (by simp) (by omega) (by omega) (by simpa using wP_ok)
theorem wT_ok : wT.Ok := .mk (by simp) (by omega) (by omega) (by simpa using wQ_ok)
theorem kn1 : ∀ c ∈ [(⟨wP, wQ⟩ : Kn)], c.Ok := fun c h => by rw [List.mem_singleton.1 h]; exact ⟨wP_ok, wQ_ok⟩
theorem kn2 : ∀ c ∈ [(⟨wP, wQ⟩ : Kn), ⟨wT, wP⟩], c.Ok := fun c h => by
  rcases List.mem_cons.1 h with rfl | h
  · exact ⟨wP_ok, wQ_ok⟩
  · rw [List.mem_singleton.1 h]; exact ⟨wT_ok, wP_ok⟩
def wC : List V := V.i .i64 5 :: V.i .i64 0 :: V.sl [] 0 :: cL (L.mk 5 1 [])
def wD : List V := V.i .i64 5 :: V.i .i64 0 :: V.sl [] 0 :: V.i .i64 5 :: V.i .i64 1 :: V.sl [] 0 :: V.i .i64 2 :: V.i .i64 0 :: V.sl (cL (L.mk 5 1 [])) 1 :: cL (L.mk 5 0 [])
theorem wD_eq : sV cK [⟨wP, wQ⟩, ⟨wT, wP⟩] = V.sl wD 2 := rfl
theorem wC_eq : sV cK [⟨wP, wQ⟩] = V.sl wC 1 := rfl
set_option maxRecDepth 20000 in
set_option maxHeartbeats 2000000 in
theorem law12_awake.a : Ans ctx law12_awake.n [] (.b true) := by
  refine ans law12_awake.f ?_
  have h1 : AnsF ctx under_Leq.n [V.sl wC 1, .i .i64 2, .ag (cL (L.mk 5 0 [])), .ag (cL (L.mk 2 0 [L.mk 5 1 []]))] (fun x => .tu [.b true, .ns, .i .i64 0]) none := by
    have h := under_Leq.r [⟨wP, wQ⟩] kn1 (by simp) 2 wP wT wP_ok wT_ok
    rw [aw1.1, aw1.2.1, aw1.2.2] at h
    exact h
  have h2 : AnsF ctx under_Leq.n [V.sl wC 1, .i .i64 2, .ag (cL (L.mk 2 0 [L.mk 5 0 []])), .ag (cL (L.mk 5 1 []))] (fun x => .tu [.b false, .ms x 0 2 1, .i .i64 0]) (some ([1, 1].flatMap cI)) := by
    have h := under_Leq.r [⟨wP, wQ⟩] kn1 (by simp) 2 wS wQ wS_ok wQ_ok
    rw [aw2.1, aw2.2.1, aw2.2.2] at h
    exact h
  have h4 : Ans ctx under_Possible.n [V.sl wC 1, .i .i64 2] (.tu [.b true, sV cI [1, 1], .i .i64 0]) := by rw [← wC_eq, ← aw4]; exact under_Possible.a [⟨wP, wQ⟩] kn1 (by simp) 2
  have h5 : AnsF ctx under_Leq.n [V.sl wC 1, .i .i64 1, .ag (cL (L.mk 5 0 [])), .ag (cL (L.mk 5 0 []))] (fun x => .tu [.b false, .ns, .i .i64 1]) none := by
    have h := under_Leq.r [⟨wP, wQ⟩] kn1 (by simp) 1 wP wP wP_ok wP_ok
    rw [aw5.1, aw5.2.1, aw5.2.2] at h
    exact h
  have h6 : Ans ctx under_Right.n [V.sl wC 1, .i .i64 2] (.b true) := by rw [← wC_eq, ← aw6]; exact under_Right.a [⟨wP, wQ⟩] kn1 (by simp) 2
  have h7 : Ans ctx under_Right.n [V.sl wC 1, .i .i64 6] (.b false) := by rw [← wC_eq, ← aw7]; exact under_Right.a [⟨wP, wQ⟩] kn1 (by simp) 6
  have h3 : Ans ctx under_Possible.n [V.sl wD 2, .i .i64 2] (.tu [.b false, sV cI [], .i .i64 0]) := by rw [← wD_eq, ← aw3]; exact under_Possible.a [⟨wP, wQ⟩, ⟨wT, wP⟩] kn2 (by simp) 2
  unfold wC at h1 h2 h4 h5 h6 h7
  unfold wD at h3
  have hI : Ans ctx ref08_Ints.n [V.sl [V.i .i64 1, V.i .i64 1] 2, V.sl [V.i .i64 1, V.i .i64 1] 2] (.b true) := ref08_Ints.a [1, 1] [1, 1] (by simp)
  have e11 : sV cI [1, 1] = V.sl [V.i .i64 1, V.i .i64 1] 2 := rfl
  simp +contextual (disch := omega) [Nat.add_assoc, Int.add_assoc, if_pos, if_neg, -Int.not_lt, -Int.not_le, -Nat.not_lt, -Nat.not_le, -List.length_flatMap, law12_awake.c]
  refine under_Leq.fr ?_
  simp +contextual (disch := omega) [Nat.add_assoc, Int.add_assoc, if_pos, if_neg, -Int.not_lt, -Int.not_le, -Nat.not_lt, -Nat.not_le, -List.length_flatMap]
  refine ansFK h1 ?_
  simp +contextual (disch := omega) [Nat.add_assoc, Int.add_assoc, if_pos, if_neg, -Int.not_lt, -Int.not_le, -Nat.not_lt, -Nat.not_le, -List.length_flatMap]
  refine under_Leq.fr ?_
  simp +contextual (disch := omega) [Nat.add_assoc, Int.add_assoc, if_pos, if_neg, -Int.not_lt, -Int.not_le, -Nat.not_lt, -Nat.not_le, -List.length_flatMap]
  refine ansFK h2 ?_
  simp +contextual (disch := omega) [Nat.add_assoc, Int.add_assoc, if_pos, if_neg, -Int.not_lt, -Int.not_le, -Nat.not_lt, -Nat.not_le, -List.length_flatMap, ansK h3, ansK h4]
  refine under_Leq.fr ?_
  simp +contextual (disch := omega) [Nat.add_assoc, Int.add_assoc, if_pos, if_neg, -Int.not_lt, -Int.not_le, -Nat.not_lt, -Nat.not_le, -List.length_flatMap]
  refine ansFK h5 ?_
  have hsc : (V.tu [V.b true, V.sl [V.i .i64 1, V.i .i64 1] 2, V.i .i64 0]).scal = false := rfl
  simp +contextual (disch := omega) [Nat.add_assoc, Int.add_assoc, if_pos, if_neg, -Int.not_lt, -Int.not_le, -Nat.not_lt, -Nat.not_le, -List.length_flatMap, ansK h6, ansK h7, ansK hI, e11, hsc]
end Pi


set_option linter.unusedSimpArgs false
set_option linter.unusedVariables false
namespace Pi
end Pi


set_option linter.unusedSimpArgs false
set_option linter.unusedVariables false
namespace Pi
end Pi


set_option linter.unusedSimpArgs false
set_option linter.unusedVariables false
namespace Pi
end Pi


set_option linter.unusedSimpArgs false
set_option linter.unusedVariables false
namespace Pi
theorem frzL_un {D : Nat → Option (Bool × List V × List V × List Nat)} {v : V} {r w : List V} {ids : List Nat} (h : frzL D (v :: r) = some (w, ids)) : ∃ u z i j, w = u :: z ∧ frzW D v = some (u, i) ∧ frzL D r = some (z, j) := by
  rw [frzL_cons] at h
  cases h1 : frzW D v with
  | none => rw [h1] at h; simp at h
  | some p =>
    cases h2 : frzL D r with
    | none => rw [h1, h2] at h; simp at h
    | some q =>
      rw [h1, h2] at h
      simp at h
      exact ⟨p.1, q.1, p.2, q.2, h.1.symm, rfl, rfl⟩
theorem FzAt.tail {m : Sto} {lo x k : Nat} {v u : V} {r z : List V} (h : FzAt m lo x k (v :: r) (u :: z)) : (∀ m' : Sto, (∀ j, lo ≤ j → j < x → m' j = m j) → ∀ d, k ≤ d → ∃ ids, frzW (der m' d) v = some (u, ids)) ∧ FzAt m lo x k r z := by
  constructor
  · intro m' hm d hd
    obtain ⟨ids, h0⟩ := h m' hm d hd
    obtain ⟨u', z', i, j, e, h1, h2⟩ := frzL_un h0
    injection e with e1 e2
    exact ⟨i, by rw [h1, e1]⟩
  · intro m' hm d hd
    obtain ⟨ids, h0⟩ := h m' hm d hd
    obtain ⟨u', z', i, j, e, h1, h2⟩ := frzL_un h0
    injection e with e1 e2
    exact ⟨j, by rw [h2, e2]⟩
end Pi


set_option linter.unusedSimpArgs false
set_option linter.unusedVariables false
namespace Pi
/-- So many constraints that a maker makes, and how many it has picked then. -/
def consS (l : List Nat) (p : Nat) : Nat → Nat → List Kn × Nat
  | 0, i => ([], i)
  | k + 1, i => (⟨(mkS l p 0 3 i).1, (mkS l p 0 3 (mkS l p 0 3 i).2).1⟩ :: (consS l p k (mkS l p 0 3 (mkS l p 0 3 i).2).2).1, (consS l p k (mkS l p 0 3 (mkS l p 0 3 i).2).2).2)
theorem consS_len (l : List Nat) (p : Nat) : ∀ k i, (consS l p k i).1.length = k
  | 0, i => rfl
  | k + 1, i => by simp [consS, consS_len l p k]
theorem consS_ok (l : List Nat) (p : Nat) (hp : p ≤ 256) : ∀ k i, ∀ c ∈ (consS l p k i).1, c.Ok
  | 0, i, c, h => by cases h
  | k + 1, i, c, h => by
    rcases List.mem_cons.1 h with rfl | h
    · exact ⟨mkS_ok l p 0 (by omega) (by omega) 3 _, mkS_ok l p 0 (by omega) (by omega) 3 _⟩
    · exact consS_ok l p hp k _ c h
set_option maxRecDepth 20000 in
set_option maxHeartbeats 2000000 in
theorem cons_w (l : List Nat) (hb : Byt l) (p : Nat) (hp : p ≤ 256) (a : Nat) (n : Nat) (hn : n ≤ 10) (i : Nat) (hi : i ≤ 100000) {m : Sto} {x : Nat} {K : CR → Sto → Nat → Prop} (hax : a < x) (hm : m a = some (.cells [sV cU l, .i .i64 i] false))
    (hK : ∀ B m' x', x ≤ x' → m' a = some (.cells [sV cU l, .i .i64 ((consS l p (pickS l i (n + 1)) (i + 1)).2 : Nat)] false) → (∀ j, j < x → j ≠ a → m' j = m j) → Bn m' B cK 6 (consS l p (pickS l i (n + 1)) (i + 1)).1 x x' 4 → K (.ret B) m' x') :
    wpCall ctx (.fn (.func law12_Cons.n) [] []) [.p a 0, .i .i64 p, .i .i64 n] m x K := by
  refine open_w law12_Cons.f rfl (.inl rfl) ?_
  simp +contextual (disch := omega) [Nat.add_assoc, Int.add_assoc, if_pos, if_neg, -Int.not_lt, -Int.not_le, -Nat.not_lt, -Nat.not_le, -List.length_flatMap, law12_Cons.c]
  refine pick_w (l := l) (i := i) (n := n + 1) (by simp +contextual (disch := omega) [Nat.add_assoc, Int.add_assoc, if_pos, if_neg, -Int.not_lt, -Int.not_le, -Nat.not_lt, -Nat.not_le, -List.length_flatMap, hm]) hb (by omega) (by omega) ?_
  intro x1 hx1
  have hk := pickS_lt l i (n + 1) (by omega)
  generalize pickS l i (n + 1) = k at *
  obtain ⟨T, hT⟩ : ∃ T, T = consS l p k (i + 1) := ⟨_, rfl⟩
  rw [← hT] at hK
  have hTl : T.1.length = k := by rw [hT, consS_len]
  simp +contextual (disch := omega) [Nat.add_assoc, Int.add_assoc, if_pos, if_neg, -Int.not_lt, -Int.not_le, -Nat.not_lt, -Nat.not_le, -List.length_flatMap]
  refine for_w (fun r e m' x' => e 0 = .p a 0 ∧ e 1 = .i .i64 p ∧ e 8 = .i .i64 ((k : Int) - r) ∧ x ≤ x' ∧ (∀ j, j < x → j ≠ a → m' j = m j) ∧ ∃ (o : List Kn) (q : Nat), m' a = some (.cells [sV cU l, .i .i64 q] false) ∧ Bn m' (e 7) cK 6 o x x' 4 ∧ o.length = r ∧ q ≤ i + 1 + 512 * r ∧ o ++ (consS l p (k - r) q).1 = T.1 ∧ (consS l p (k - r) q).2 = T.2) k ?_ ?_ ?_
  · simp +contextual (disch := omega) [Nat.add_assoc, Int.add_assoc, if_pos, if_neg, -Int.not_lt, -Int.not_le, -Nat.not_lt, -Nat.not_le, -List.length_flatMap]
    exact ⟨by omega, [], i + 1, by omega, Bn.nil, rfl, by omega, by rw [hT]; rfl, by rw [hT]⟩
  · rintro r e m' x' hr ⟨g0, g1, g8, gx, gm, o, q, ga, gB, gl, gq, gT1, gT2⟩
    obtain ⟨k', hk'⟩ : ∃ k', k - r = k' + 1 := ⟨k - r - 1, by omega⟩
    have hk2 : k - (r + 1) = k' := by omega
    rw [hk2]
    rw [hk'] at gT1 gT2
    simp only [consS] at gT1 gT2
    have b1 := mkS_bd l p 0 3 q
    have b2 := mkS_bd l p 0 3 (mkS l p 0 3 q).2
    have h44 : 4 ^ (3 + 1) = 256 := by decide
    have hst := gB.stor
    have hsc := gB.cells
    generalize hV : e 7 = V7 at *
    simp +contextual (disch := omega) [Nat.add_assoc, Int.add_assoc, if_pos, if_neg, -Int.not_lt, -Int.not_le, -Nat.not_lt, -Nat.not_le, -List.length_flatMap, law12_Cons.b1, g0, g1, g8, hV, hr]
    refine made_w l hb p 0 hp (by omega) a 2 (by omega) q (by omega) (by omega) (by simp +contextual (disch := omega) [Nat.add_assoc, Int.add_assoc, if_pos, if_neg, -Int.not_lt, -Int.not_le, -Nat.not_lt, -Nat.not_le, -List.length_flatMap, ga]) ?_
    intro c1 m1 y1 hl1 ha1 hm1 hx1 hz1
    simp +contextual (disch := omega) [Nat.add_assoc, Int.add_assoc, if_pos, if_neg, -Int.not_lt, -Int.not_le, -Nat.not_lt, -Nat.not_le, -List.length_flatMap, g0, g1, g8, hV]
    refine made_w l hb p 0 hp (by omega) a 2 (by omega) (mkS l p 0 3 q).2 (by omega) (by omega) (by simp +contextual (disch := omega) [Nat.add_assoc, Int.add_assoc, if_pos, if_neg, -Int.not_lt, -Int.not_le, -Nat.not_lt, -Nat.not_le, -List.length_flatMap, ha1]) ?_
    intro c2 m2 y2 hl2 ha2 hm2 hx2 hz2
    generalize (mkS l p 0 3 (mkS l p 0 3 q).2) = R2 at *
    generalize (mkS l p 0 3 q) = R1 at *
    have hz := (hz1.up (m' := m2) (x' := y2) (by omega) (Nat.le_refl _) (fun j h1 h2 => hm2 j (by omega) (by omega))).app (hz2.low (lo' := x' + 5) (by omega))
    obtain ⟨a0, a1, a2, rfl⟩ : ∃ a0 a1 a2, c1 = [a0, a1, a2] := by
      match c1, hl1 with
      | [a, b, c], _ => exact ⟨a, b, c, rfl⟩
    obtain ⟨d0, d1, d2, rfl⟩ : ∃ a0 a1 a2, c2 = [a0, a1, a2] := by
      match c2, hl2 with
      | [a, b, c], _ => exact ⟨a, b, c, rfl⟩
    simp +contextual (disch := omega) [Nat.add_assoc, Int.add_assoc, if_pos, if_neg, -Int.not_lt, -Int.not_le, -Nat.not_lt, -Nat.not_le, -List.length_flatMap, g0, g1, g8, hV, hst, hsc, -apV_ns]
    refine gB.ap ⟨R1.1, R2.1⟩ (fun j h1 h2 => by rw [Sto.sne _ _ _ _ (by omega), hm2 j (by omega) (by omega), hm1 j (by omega) (by omega)]) (by omega) gx
      ((hz.up (m' := m2.set (y2 + 1) (some (litO 6 [a0, a1, a2, d0, d1, d2]))) (x' := y2 + 2) (k' := 4) (by omega) (by omega) (fun j h1 h2 => Sto.sne _ _ _ _ (by omega))).low (by omega)) rfl rfl (by omega) ?_
    intro B' ws m3 z0 z1 z2 z3
    have za : m3 a = some (.cells [sV cU l, .i .i64 (R2.2 : Nat)] false) := by rw [z2 a hax, Sto.sne _ _ _ _ (by omega), ha2]
    simp +contextual (disch := omega) [Nat.add_assoc, Int.add_assoc, if_pos, if_neg, -Int.not_lt, -Int.not_le, -Nat.not_lt, -Nat.not_le, -List.length_flatMap, z0, g0, g1, g8]
    refine ⟨by omega, by omega, fun j h1 h2 => ?_, o ++ [⟨R1.1, R2.1⟩], R2.2, za, z1.up (by omega) (fun _ _ _ => rfl), by simp [gl], by omega, by rw [List.append_assoc]; exact gT1, gT2⟩
    rw [z2 j (by omega), Sto.sne _ _ _ _ (by omega), hm2 j (by omega) (by omega), hm1 j (by omega) (by omega), gm j h1 h2]
  · rintro e m' x' ⟨g0, g1, g8, gx, gm, o, q, ga, gB, gl, gq, gT1, gT2⟩
    rw [Nat.sub_self] at gT1 gT2
    simp only [consS, List.append_nil] at gT1 gT2
    rw [gT1] at gB
    rw [gT2] at ga
    generalize hV : e 7 = V7 at *
    have hst := gB.stor
    have hsc := gB.cells
    simp +contextual (disch := omega) [Nat.add_assoc, Int.add_assoc, if_pos, if_neg, -Int.not_lt, -Int.not_le, -Nat.not_lt, -Nat.not_le, -List.length_flatMap, law12_Cons.b1, g0, g1, g8, hV]
    exact hK _ _ _ (by omega) ga gm (gB.up (by omega) (fun _ _ _ => rfl))
end Pi


set_option linter.unusedSimpArgs false
set_option linter.unusedVariables false
namespace Pi
end Pi


set_option linter.unusedSimpArgs false
set_option linter.unusedVariables false
namespace Pi
theorem eval3 (X : L) (oX : X.Ok) (rX : RightS X (3 : Nat) 0 = true) (p : List Int) (hp : p.length = 3) (hn : Nats p) : Ans ctx ref02_Eval.n [.ag (cL X), sV cI p, .sl [] 0] (.tu [.i .i64 (lvS X p []), .i .i64 0]) := by
  have h := ref02_Eval.a X oX p [] (by omega) (by simp)
  rw [evalS_ok hp rfl rX hn (by intro a ha; simp at ha)] at h
  exact h
theorem mkS_right3 (l : List Nat) (i : Nat) : RightS (mkS l 3 0 3 i).1 (3 : Nat) 0 = true := RightS_of (q := 0) (by omega) (by omega) (by have : szL (mkS l 3 0 3 i).1 + 1 ≤ 2 ^ 3 := mkS_sz l 3 0 2 i; omega) (rightS_up _ _ _ _ _ (by omega) (mkS_right l 3 0 2 i))
theorem consS_right (l : List Nat) : ∀ k i, RightK 3 (consS l 3 k i).1
  | 0, i, c, h => by cases h
  | k + 1, i, c, h => by
    rcases List.mem_cons.1 h with rfl | h
    · exact ⟨mkS_right3 l _, mkS_right3 l _⟩
    · exact consS_right l k _ c h
def holdsB (cs : List Kn) (v : List Int) : Bool := cs.all fun c => decide (lvS c.a v [] ≤ lvS c.b v [])
theorem holdsB_iff {cs : List Kn} {v : List Int} : holdsB cs v = true ↔ HoldK cs v := by simp [holdsB, HoldK]
theorem law12_holds.a (cs : List Kn) (hok : ∀ c ∈ cs, c.Ok) (hl : cs.length ≤ 100) (hr : RightK 3 cs) (v : List Int) (hv : v.length = 3) (hn : Nats v) : Ans ctx law12_holds.n [sV cK cs, sV cI v] (.b (holdsB cs v)) := by
  refine ans law12_holds.f ?_
  simp +contextual (disch := omega) [Nat.add_assoc, Int.add_assoc, if_pos, if_neg, -Int.not_lt, -Int.not_le, -Nat.not_lt, -Nat.not_le, -List.length_flatMap, law12_holds.c]
  refine for_w (fun i e m x => e 0 = sV cK cs ∧ e 1 = sV cI v ∧ e 5 = .i .i64 i ∧ (cs.take i).all (fun c => decide (lvS c.a v [] ≤ lvS c.b v [])) = true) cs.length ?_ ?_ ?_
  · simp +contextual (disch := omega) [Nat.add_assoc, Int.add_assoc, if_pos, if_neg, -Int.not_lt, -Int.not_le, -Nat.not_lt, -Nat.not_le, -List.length_flatMap]
  · rintro i e m x hi ⟨g0, g1, g5, gt⟩
    have ho := hok _ (List.getElem_mem hi)
    have h := hr _ (List.getElem_mem hi)
    have eA := eval3 cs[i].a ho.1 h.1 v hv hn
    have eB := eval3 cs[i].b ho.2 h.2 v hv hn
    by_cases hle : lvS cs[i].a v [] ≤ lvS cs[i].b v []
    · have ht := take_all hi gt (by simpa using hle)
      simp +contextual (disch := omega) [Nat.add_assoc, Int.add_assoc, if_pos, if_neg, -Int.not_lt, -Int.not_le, -Nat.not_lt, -Nat.not_le, -List.length_flatMap, law12_holds.b1, g0, g1, g5, hi, ansK eA, ansK eB, hle, ht]
    · have hb : holdsB cs v = false := by
        cases hh : holdsB cs v with
        | false => rfl
        | true => exact absurd (holdsB_iff.1 hh _ (List.getElem_mem hi)) hle
      simp +contextual (disch := omega) [Nat.add_assoc, Int.add_assoc, if_pos, if_neg, -Int.not_lt, -Int.not_le, -Nat.not_lt, -Nat.not_le, -List.length_flatMap, law12_holds.b1, g0, g1, g5, hi, ansK eA, ansK eB, hle, hb]
  · rintro e m x ⟨g0, g1, g5, gt⟩
    rw [List.take_length] at gt
    have hb : holdsB cs v = true := gt
    simp +contextual (disch := omega) [Nat.add_assoc, Int.add_assoc, if_pos, if_neg, -Int.not_lt, -Int.not_le, -Nat.not_lt, -Nat.not_le, -List.length_flatMap, law12_holds.b1, g0, g1, g5, hb]
end Pi


set_option linter.unusedSimpArgs false
set_option linter.unusedVariables false
namespace Pi
theorem goodK3 {cs : List Kn} (hok : ∀ c ∈ cs, c.Ok) (hl : cs.length ≤ 8) (hr : RightK 3 cs) : ∀ z : List Bool, z.length = 3 → GoodKs cs z := fun z hz => ⟨by omega, hl, fun c hc => ⟨hok c hc, by rw [hz]; exact hr c hc⟩⟩
theorem rightU3 {cs : List Kn} (hl : cs.length ≤ 8) (hr : RightK 3 cs) : RightU cs 3 = true := by
  simp only [RightU, Bool.and_eq_true, decide_eq_true_eq]
  refine ⟨⟨⟨by omega, by omega⟩, hl⟩, List.all_eq_true.2 fun c hc => ?_⟩
  have := hr c hc
  simp only [rightK, Bool.and_eq_true]
  exact this
end Pi


set_option linter.unusedSimpArgs false
set_option linter.unusedVariables false
namespace Pi
set_option maxRecDepth 20000 in
set_option maxHeartbeats 8000000 in
theorem law12_UnderPossible.a (l : List Nat) (hb : Byt l) (ll : l.length ≤ 9223372036854775807) : Ans ctx law12_UnderPossible.n [sV cU l] (.b true) := by
  refine ans law12_UnderPossible.f ?_
  have bd1 := (mkS_bd l 3 0 3 0).2
  have bd2 := (mkS_bd l 3 0 3 (mkS l 3 0 3 0).2).2
  have h44 : 4 ^ (3 + 1) = 256 := by decide
  simp +contextual (disch := omega) [Nat.add_assoc, Int.add_assoc, if_pos, if_neg, -Int.not_lt, -Int.not_le, -Nat.not_lt, -Nat.not_le, -List.length_flatMap, law12_UnderPossible.c, ansK law12_awake.a]
  refine made_w l hb 3 0 (by omega) (by omega) 6 2 (by omega) 0 (by omega) (by omega) (by simp +contextual (disch := omega) [Nat.add_assoc, Int.add_assoc, if_pos, if_neg, -Int.not_lt, -Int.not_le, -Nat.not_lt, -Nat.not_le, -List.length_flatMap]) ?_
  have okA := mkS_ok l 3 0 (by omega) (by omega) 3 0
  have okB := mkS_ok l 3 0 (by omega) (by omega) 3 (mkS l 3 0 3 0).2
  have rA := mkS_right3 l 0
  have rB := mkS_right3 l (mkS l 3 0 3 0).2
  intro c1 m1 x1 h1 h2 h3 h4 h5
  simp +contextual (disch := omega) [Nat.add_assoc, Int.add_assoc, if_pos, if_neg, -Int.not_lt, -Int.not_le, -Nat.not_lt, -Nat.not_le, -List.length_flatMap]
  refine made_w l hb 3 0 (by omega) (by omega) 6 2 (by omega) (mkS l 3 0 3 0).2 (by omega) (by omega) (by simp +contextual (disch := omega) [Nat.add_assoc, Int.add_assoc, if_pos, if_neg, -Int.not_lt, -Int.not_le, -Nat.not_lt, -Nat.not_le, -List.length_flatMap, h2]) ?_
  intro c2 m2 x2 q1 q2 q3 q4 q5
  obtain ⟨a0, a1, a2, rfl⟩ : ∃ a0 a1 a2, c1 = [a0, a1, a2] := by
    match c1, h1 with
    | [a, b, c], _ => exact ⟨a, b, c, rfl⟩
  obtain ⟨b0, b1, b2, rfl⟩ : ∃ a0 a1 a2, c2 = [a0, a1, a2] := by
    match c2, q1 with
    | [a, b, c], _ => exact ⟨a, b, c, rfl⟩
  generalize (mkS l 3 0 3 (mkS l 3 0 3 0).2) = R2 at *
  generalize (mkS l 3 0 3 0) = R1 at *
  simp +contextual (disch := omega) [Nat.add_assoc, Int.add_assoc, if_pos, if_neg, -Int.not_lt, -Int.not_le, -Nat.not_lt, -Nat.not_le, -List.length_flatMap]
  refine cons_w l hb 3 (by omega) 6 5 (by omega) R2.2 (by omega) (by omega) (by simp +contextual (disch := omega) [Nat.add_assoc, Int.add_assoc, if_pos, if_neg, -Int.not_lt, -Int.not_le, -Nat.not_lt, -Nat.not_le, -List.length_flatMap, q2]) ?_
  intro B m3 x3 hx3 z7 z8 hB
  have hok := consS_ok l 3 (by omega) (pickS l R2.2 (5 + 1)) (R2.2 + 1)
  have hri := consS_right l (pickS l R2.2 (5 + 1)) (R2.2 + 1)
  have hln := consS_len l 3 (pickS l R2.2 (5 + 1)) (R2.2 + 1)
  have hpk := pickS_lt l R2.2 (5 + 1) (by omega)
  generalize pickS l R2.2 (5 + 1) = kk at *
  generalize (consS l 3 kk (R2.2 + 1)).1 = cs at *
  generalize R2.1 = C at *
  generalize R1.1 = A at *
  have hU := rightU3 (cs := cs) (by omega) hri
  have hGd := goodK3 hok (by omega) hri
  have hR : leqRU cs 3 A C = true := by
    unfold leqRU
    rw [hU]
    simp only [Bool.true_and, Bool.and_eq_true]
    exact ⟨rA, rB⟩
  have hL := under_Leq.r cs hok (by omega) 3 A C okA okB
  have e3 : (3 : Int).toNat = 3 := rfl
  unfold leqBU leqOU leqEU at hL
  rw [hR, e3] at hL
  simp only [if_true, Bool.true_and] at hL
  have evA := eval3 A okA rA
  have evC := eval3 C okB rB
  have hH := law12_holds.a cs hok (by omega) hri
  have hsome := fun v h => leq_some (v := v) hGd rA rB h
  have hnone := fun h p => leq_none (a := A) (b := C) (p := p) hGd rA rB h
  have eA := cL_at A
  have eC := cL_at C
  obtain ⟨ta, hta⟩ : ∃ t, t = sV cL A.kids := ⟨_, rfl⟩
  obtain ⟨tc, htc⟩ : ∃ t, t = sV cL C.kids := ⟨_, rfl⟩
  rw [← hta] at eA
  rw [← htc] at eC
  generalize A.kind = ka at eA
  generalize A.n = na at eA
  generalize C.kind = kc at eC
  generalize C.n = nc at eC
  rw [eA] at evA h5
  rw [eC] at evC q5
  rw [eA, eC] at hL
  obtain ⟨fa0, h5⟩ := h5.tail
  obtain ⟨fa1, h5⟩ := h5.tail
  obtain ⟨fa2, h5⟩ := h5.tail
  obtain ⟨fb0, q5⟩ := q5.tail
  obtain ⟨fb1, q5⟩ := q5.tail
  obtain ⟨fb2, q5⟩ := q5.tail
  have mem : ∀ M : Sto, (∀ j, 7 ≤ j → j < x2 → M j = m2 j) → ∀ d, 5 ≤ d → (∃ ids, frzW (der M d) a0 = some (.i .i64 ka, ids)) ∧ (∃ ids, frzW (der M d) a1 = some (.i .i64 na, ids)) ∧ (∃ ids, frzW (der M d) a2 = some (ta, ids)) ∧
      (∃ ids, frzW (der M d) b0 = some (.i .i64 kc, ids)) ∧ (∃ ids, frzW (der M d) b1 = some (.i .i64 nc, ids)) ∧ (∃ ids, frzW (der M d) b2 = some (tc, ids)) := fun M hM d hd =>
    have h1 : ∀ j, 9 ≤ j → j < x1 → M j = m1 j := fun j p1 p2 => (hM j (by omega) (by omega)).trans (q3 j (by omega) (by omega))
    have h2 : ∀ j, x1 + 1 ≤ j → j < x2 → M j = m2 j := fun j p1 p2 => hM j (by omega) p2
    ⟨fa0 M h1 d (by omega), fa1 M h1 d (by omega), fa2 M h1 d (by omega), fb0 M h2 d (by omega), fb1 M h2 d (by omega), fb2 M h2 d (by omega)⟩
  have ha3 : m3 x2 = some (.cells [a0, a1, a2] false) := by rw [z8 x2 (by omega) (by omega)]; simp +contextual (disch := omega) [Nat.add_assoc, Int.add_assoc, if_pos, if_neg, -Int.not_lt, -Int.not_le, -Nat.not_lt, -Nat.not_le, -List.length_flatMap]
  have hb3 : m3 (x2 + 1) = some (.cells [b0, b1, b2] false) := by rw [z8 (x2 + 1) (by omega) (by omega)]; simp +contextual (disch := omega) [Nat.add_assoc, Int.add_assoc, if_pos, if_neg, -Int.not_lt, -Int.not_le, -Nat.not_lt, -Nat.not_le, -List.length_flatMap]
  have hj3 : ∀ j, 7 ≤ j → j < x2 → m3 j = m2 j := fun j p1 p2 => by rw [z8 j (by omega) (by omega)]; simp +contextual (disch := omega) [Nat.add_assoc, Int.add_assoc, if_pos, if_neg, -Int.not_lt, -Int.not_le, -Nat.not_lt, -Nat.not_le, -List.length_flatMap]
  clear fa0 fa1 fa2 fb0 fb1 fb2 h3 q3 h2 q2 z8
  have hst := hB.stor
  have hsc := hB.cells
  have cut : ∀ M : Sto, (∀ j, j < x3 → bare (M j) = bare (m3 j)) → ∃ M' : Sto, (∀ j, j < x3 → M' j = m3 j) ∧ ∀ d, der M d = der M' d := fun M h => by
    refine ⟨fun j => if j < x3 then m3 j else M j, fun j hj => if_pos hj, fun d => (der_bare (fun j => ?_) d).symm⟩
    by_cases hj : j < x3
    · rw [if_pos hj, h j hj]
    · rw [if_neg hj]
  have facts : ∀ M : Sto, (∀ j, j < x3 → bare (M j) = bare (m3 j)) → (∃ ids, frzW (der M 24) a0 = some (.i .i64 ka, ids)) ∧ (∃ ids, frzW (der M 24) a1 = some (.i .i64 na, ids)) ∧ (∃ ids, frzW (der M 24) a2 = some (ta, ids)) ∧
      (∃ ids, frzW (der M 24) b0 = some (.i .i64 kc, ids)) ∧ (∃ ids, frzW (der M 24) b1 = some (.i .i64 nc, ids)) ∧ (∃ ids, frzW (der M 24) b2 = some (tc, ids)) ∧ ∃ ids, frzW (der M 24) B = some (sV cK cs, ids) := fun M h => by
    obtain ⟨M', e1, e2⟩ := cut M h
    rw [e2]
    have h1 := mem M' (fun j p1 p2 => (e1 j (by omega)).trans (hj3 j p1 p2)) 24 (by omega)
    exact ⟨h1.1, h1.2.1, h1.2.2.1, h1.2.2.2.1, h1.2.2.2.2.1, h1.2.2.2.2.2, (hB.up (m' := M') (Nat.le_refl x3) (fun j p1 p2 => e1 j p2)).fz24 (by omega)⟩
  have lda : ∀ M : Sto, (∀ j, j < x3 → bare (M j) = bare (m3 j)) → (∀ ag n off, ldO (M x2) ag n off = ldO (some (.cells [a0, a1, a2] false)) ag n off) ∧ ∀ ag n off, ldO (M (x2 + 1)) ag n off = ldO (some (.cells [b0, b1, b2] false)) ag n off := fun M h =>
    ⟨fun ag n off => by rw [ldO_bare, h x2 (by omega), ha3, ← ldO_bare], fun ag n off => by rw [ldO_bare, h (x2 + 1) (by omega), hb3, ← ldO_bare]⟩
  have hP := under_Possible.a cs hok (by omega) 3
  unfold possV at hP
  rw [if_pos hU, e3] at hP
  have hPs := fun v h => poss_some (v := v) hGd h
  have hPn := fun h p => poss_none (cs := cs) (p := p) hGd h
  obtain ⟨o2, ho2⟩ : ∃ o, o = possU cs 3 := ⟨_, rfl⟩
  rw [← ho2] at hP hPs hPn
  obtain ⟨⟨_, f1⟩, ⟨_, f2⟩, ⟨_, f3⟩, ⟨_, f4⟩, ⟨_, f5⟩, ⟨_, f6⟩, ⟨i7, hz⟩⟩ := facts m3 (fun _ _ => rfl)
  simp +contextual (disch := omega) [Nat.add_assoc, Int.add_assoc, if_pos, if_neg, -Int.not_lt, -Int.not_le, -Nat.not_lt, -Nat.not_le, -List.length_flatMap, hz, hst, hsc, ansK hP]
  clear f1 f2 f3 f4 f5 f6 hz
  have hb4 : ∀ j, bare (aft (V.tu [V.b o2.isSome, sV cI (o2.getD []), V.i .i64 0]) m3 i7 j) = bare (m3 j) := bare_aft _ _ _
  generalize aft (V.tu [V.b o2.isSome, sV cI (o2.getD []), V.i .i64 0]) m3 i7 = m4 at *
  obtain ⟨⟨_, f1⟩, ⟨_, f2⟩, ⟨_, f3⟩, ⟨_, f4⟩, ⟨_, f5⟩, ⟨_, f6⟩, ⟨_, hz⟩⟩ := facts m4 (fun j _ => hb4 j)
  obtain ⟨la, lb⟩ := lda m4 (fun j _ => hb4 j)
  simp +contextual (disch := omega) [Nat.add_assoc, Int.add_assoc, if_pos, if_neg, -Int.not_lt, -Int.not_le, -Nat.not_lt, -Nat.not_le, -List.length_flatMap, la, lb]
  refine under_Leq.fr ?_
  simp +contextual (disch := omega) [Nat.add_assoc, Int.add_assoc, if_pos, if_neg, -Int.not_lt, -Int.not_le, -Nat.not_lt, -Nat.not_le, -List.length_flatMap, f1, f2, f3, f4, f5, f6, hz]
  refine ansFK hL ?_
  obtain ⟨o, ho⟩ : ∃ o, o = leqU cs A C 3 := ⟨_, rfl⟩
  rw [← ho] at hsome ⊢
  clear f1 f2 f3 f4 f5 f6 hz la lb
  have hrs := (Rw.out o m4 (x3 + 12)).stor
  have hC := outC_lt o m4 (x3 + 12)
  dsimp only
  generalize fM m4 (x3 + 12) (outC o) = m5 at *
  generalize fX (x3 + 12) (outC o) = x5 at *
  have hb5 : ∀ j, j < x3 → bare (m5 j) = bare (m3 j) := fun j hj => by rw [hC.2 j (by omega), hb4 j]
  have hx5 := hC.1
  cases hov : o2 with
  | some v =>
    have hv := hPs v hov
    have hnv : Nats v := fun a ha => by
      obtain ⟨i, hi, rfl⟩ := List.getElem_of_mem ha
      have := hv.nat i
      simp [hi] at this
      omega
    have hHv := hH v hv.len hnv
    rw [holdsB_iff.2 hv.hold] at hHv
    obtain ⟨⟨_, f1⟩, ⟨_, f2⟩, ⟨_, f3⟩, ⟨_, f4⟩, ⟨_, f5⟩, ⟨_, f6⟩, ⟨_, hz⟩⟩ := facts m5 hb5
    have hvl := hv.len
    simp +contextual (disch := omega) [Nat.add_assoc, Int.add_assoc, if_pos, if_neg, -Int.not_lt, -Int.not_le, -Nat.not_lt, -Nat.not_le, -List.length_flatMap, hz, hrs, ansK hHv, hvl]
  | none =>
    have hon : o.isSome = false := by
      cases h : o with
      | none => rfl
      | some v =>
        have hv := (hsome v h).1
        exact (hPn hov v hv.len (fun i => (hv.nat i).1) hv.hold).elim
    obtain ⟨few, hfw⟩ : ∃ few : List Int, few = [0, 1, 2, 3, 4, 50] := ⟨_, rfl⟩
    have hfc : [V.i .i64 0, V.i .i64 1, V.i .i64 2, V.i .i64 3, V.i .i64 4, V.i .i64 50] = few.flatMap cI := by rw [hfw]; rfl
    have hfl : few.length = 6 := by rw [hfw]; rfl
    have hfn : ∀ x ∈ few, 0 ≤ x ∧ x ≤ 50 := by rw [hfw]; simp
    clear hfw
    simp +contextual (disch := omega) [Nat.add_assoc, Int.add_assoc, if_pos, if_neg, -Int.not_lt, -Int.not_le, -Nat.not_lt, -Nat.not_le, -List.length_flatMap, hfc, hrs, hon]
    refine for_w (fun i e m x => e 3 = .b true ∧ e 7 = B ∧ e 9 = sV cI [] ∧ e 11 = .b true ∧ e 14 = .ms (x5 + 14) 0 6 1 ∧ e 15 = .i .i64 i ∧ x5 + 17 ≤ x ∧ (∀ j, j < x5 + 14 → m j = m5 j) ∧ m (x5 + 14) = some (.cells (few.flatMap cI) false)) 216 ?_ ?_ ?_
    · simp +contextual (disch := omega) [Nat.add_assoc, Int.add_assoc, if_pos, if_neg, -Int.not_lt, -Int.not_le, -Nat.not_lt, -Nat.not_le, -List.length_flatMap]
    · rintro i e m x hi ⟨g3, g7, g9, g11, g14, g15, gx, gm, y23⟩
      obtain ⟨a, ha⟩ : ∃ a, a = i % 6 := ⟨_, rfl⟩
      obtain ⟨b, hb2⟩ : ∃ b, b = i / 6 % 6 := ⟨_, rfl⟩
      obtain ⟨c, hc⟩ : ∃ c, c = i / 36 := ⟨_, rfl⟩
      have ha5 : a < few.length := by omega
      have hb6 : b < few.length := by omega
      have hc5 : c < few.length := by omega
      have ta : ((i : Int)).tmod 6 = (a : Int) := by rw [Int.tmod_eq_emod_of_nonneg (by omega)]; omega
      have tb : ((i : Int) / 6).tmod 6 = (b : Int) := by rw [Int.tmod_eq_emod_of_nonneg (by omega)]; omega
      have tc : (i : Int) / 36 = (c : Int) := by omega
      have na := hfn _ (List.getElem_mem ha5)
      have nb := hfn _ (List.getElem_mem hb6)
      have nc := hfn _ (List.getElem_mem hc5)
      have hcl : (few.flatMap cI).length = 6 := by rw [flatI_len, hfl]
      have ra : ∀ h, (few.flatMap cI)[a]'h = .i .i64 few[a] := fun h => flatI_get h
      have rb : ∀ h, (few.flatMap cI)[b]'h = .i .i64 few[b] := fun h => flatI_get h
      have rc : ∀ h, (few.flatMap cI)[c]'h = .i .i64 few[c] := fun h => flatI_get h
      have hnp : Nats [few[a], few[b], few[c]] := by intro z hz; simp at hz; omega
      have hH1 := hH _ rfl hnp
      have hno := hPn hov [few[a], few[b], few[c]] rfl (fun i => (hnp.getD i).1)
      have hbf : holdsB cs [few[a], few[b], few[c]] = false := by
        cases hh : holdsB cs [few[a], few[b], few[c]] with
        | false => rfl
        | true => exact (hno (holdsB_iff.1 hh)).elim
      rw [hbf] at hH1
      clear hno hbf
      generalize few[a] = u at *
      generalize few[b] = v at *
      generalize few[c] = s at *
      have hs3 : sV cI [u, v, s] = .sl [.i .i64 u, .i .i64 v, .i .i64 s] 3 := rfl
      rw [hs3] at hH1
      simp +contextual (disch := omega) [Nat.add_assoc, Int.add_assoc, if_pos, if_neg, -Int.not_lt, -Int.not_le, -Nat.not_lt, -Nat.not_le, -List.length_flatMap, law12_UnderPossible.b1, g3, g7, g9, g11, g14, g15, hi, y23, ta, tb, tc, hcl, hfl, ra, rb, rc]
      generalize hM : Sto.set m _ _ = M
      have hMg : ∀ j, j < x5 + 14 → M j = m5 j := fun j hj => by rw [← hM, Sto.sne _ _ _ _ (by omega), gm j hj]
      have y24 : M (x5 + 14) = some (.cells (few.flatMap cI) false) := by rw [← hM, Sto.sne _ _ _ _ (by omega), y23]
      obtain ⟨_, _, _, _, _, _, ⟨_, hz⟩⟩ := facts M (fun j hj => by rw [hMg j (by omega), hb5 j hj])
      simp +contextual (disch := omega) [Nat.add_assoc, Int.add_assoc, if_pos, if_neg, -Int.not_lt, -Int.not_le, -Nat.not_lt, -Nat.not_le, -List.length_flatMap, hz, ansK hH1, g3, g7, g9, g11, g14, g15]
      exact ⟨by omega, hMg, y24⟩
    · rintro e m x ⟨g3, g7, g9, g11, g14, g15, gx, gm, y23⟩
      simp +contextual (disch := omega) [Nat.add_assoc, Int.add_assoc, if_pos, if_neg, -Int.not_lt, -Int.not_le, -Nat.not_lt, -Nat.not_le, -List.length_flatMap, law12_UnderPossible.b1, g3, g7, g9, g11, g14, g15]
end Pi

