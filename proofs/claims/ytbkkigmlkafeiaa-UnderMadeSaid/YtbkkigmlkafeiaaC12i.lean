/- Laws of layer 12: any constraints. -/
import Derived.Test.YtbkkigmlkafeiaaC07c
import Derived.Test.YtbkkigmlkafeiaaC09e
set_option linter.unusedSimpArgs false
set_option linter.unusedVariables false
namespace Pi
def wP : L := .mk 5 0 []
def wQ : L := .mk 5 1 []
def wS : L := .mk 2 0 [wP]
def wT : L := .mk 2 0 [wQ]
theorem aw1 : leqOU [⟨wP, wQ⟩] 2 wP wT = none ∧ leqBU [⟨wP, wQ⟩] 2 wP wT = true ∧ leqEU [⟨wP, wQ⟩] 2 wP wT = 0 := ⟨by kernel_rfl, by kernel_rfl, by kernel_rfl⟩
theorem aw2 : leqOU [⟨wP, wQ⟩] 2 wS wQ = some [1, 1] ∧ leqBU [⟨wP, wQ⟩] 2 wS wQ = false ∧ leqEU [⟨wP, wQ⟩] 2 wS wQ = 0 := ⟨by kernel_rfl, by kernel_rfl, by kernel_rfl⟩
theorem aw3 : possV [⟨wP, wQ⟩, ⟨wT, wP⟩] 2 = .tu [.b false, sV cI [], .i .i64 0] := by kernel_rfl
theorem aw4 : possV [⟨wP, wQ⟩] 2 = .tu [.b true, sV cI [1, 1], .i .i64 0] := by kernel_rfl
theorem aw5 : leqOU [⟨wP, wQ⟩] 1 wP wP = none ∧ leqBU [⟨wP, wQ⟩] 1 wP wP = false ∧ leqEU [⟨wP, wQ⟩] 1 wP wP = 1 := ⟨by kernel_rfl, by kernel_rfl, by kernel_rfl⟩
theorem aw6 : RightU [⟨wP, wQ⟩] 2 = true := by kernel_rfl
theorem aw7 : RightU [⟨wP, wQ⟩] 6 = false := by kernel_rfl
theorem L_ok0 (k n : Int) (hk : 0 ≤ k ∧ k ≤ 10) (hn : 0 ≤ n ∧ n ≤ 10) : (L.mk k n []).Ok := .mk (by simp) (by omega) (by omega) (by simp)
theorem wP_ok : wP.Ok := L_ok0 5 0 (by omega) (by omega)
theorem wQ_ok : wQ.Ok := L_ok0 5 1 (by omega) (by omega)
theorem wS_ok : wS.Ok := .mk (by simp) (by omega) (by omega) (by simpa using wP_ok)
theorem wT_ok : wT.Ok := .mk (by simp) (by omega) (by omega) (by simpa using wQ_ok)
theorem kn1 : ∀ c ∈ [(⟨wP, wQ⟩ : Kn)], c.Ok := fun c h => by rw [List.mem_singleton.1 h]; exact ⟨wP_ok, wQ_ok⟩
theorem kn2 : ∀ c ∈ [(⟨wP, wQ⟩ : Kn), ⟨wT, wP⟩], c.Ok := fun c h => by
  rcases List.mem_cons.1 h with rfl | h
  · exact ⟨wP_ok, wQ_ok⟩
  · rw [List.mem_singleton.1 h]; exact ⟨wT_ok, wP_ok⟩
def wC : List V := V.i .i64 5 :: V.i .i64 0 :: V.sl [] 0 :: cL (L.mk 5 1 [])
def wD : List V := V.i .i64 5 :: V.i .i64 0 :: V.sl [] 0 :: V.i .i64 5 :: V.i .i64 1 :: V.sl [] 0 :: V.i .i64 2 :: V.i .i64 0 :: V.sl (cL (L.mk 5 1 [])) 1 :: cL (L.mk 5 0 [])
theorem wD_eq : sV cK [⟨wP, wQ⟩, ⟨wT, wP⟩] = V.sl wD 2 := rfl
theorem wC_eq : sV cK [⟨wP, wQ⟩] = V.sl wC 1 := rfl
set_option maxRecDepth 20000 in
set_option maxHeartbeats 2000000 in
theorem law12_awake.a : Ans ctx law12_awake.n [] (.b true) := by
  refine ans law12_awake.f ?_
  have h1 : AnsF ctx under_Leq.n [V.sl wC 1, .i .i64 2, .ag (cL (L.mk 5 0 [])), .ag (cL (L.mk 2 0 [L.mk 5 1 []]))] (fun x => .tu [.b true, .ns, .i .i64 0]) none := by
    have h := under_Leq.r [⟨wP, wQ⟩] kn1 (by simp) 2 wP wT wP_ok wT_ok
    rw [aw1.1, aw1.2.1, aw1.2.2] at h
    exact h
  have h2 : AnsF ctx under_Leq.n [V.sl wC 1, .i .i64 2, .ag (cL (L.mk 2 0 [L.mk 5 0 []])), .ag (cL (L.mk 5 1 []))] (fun x => .tu [.b false, .ms x 0 2 1, .i .i64 0]) (some ([1, 1].flatMap cI)) := by
    have h := under_Leq.r [⟨wP, wQ⟩] kn1 (by simp) 2 wS wQ wS_ok wQ_ok
    rw [aw2.1, aw2.2.1, aw2.2.2] at h
    exact h
  have h4 : Ans ctx under_Possible.n [V.sl wC 1, .i .i64 2] (.tu [.b true, sV cI [1, 1], .i .i64 0]) := by rw [← wC_eq, ← aw4]; exact under_Possible.a [⟨wP, wQ⟩] kn1 (by simp) 2
  have h5 : AnsF ctx under_Leq.n [V.sl wC 1, .i .i64 1, .ag (cL (L.mk 5 0 [])), .ag (cL (L.mk 5 0 []))] (fun x => .tu [.b false, .ns, .i .i64 1]) none := by
    have h := under_Leq.r [⟨wP, wQ⟩] kn1 (by simp) 1 wP wP wP_ok wP_ok
    rw [aw5.1, aw5.2.1, aw5.2.2] at h
    exact h
  have h6 : Ans ctx under_Right.n [V.sl wC 1, .i .i64 2] (.b true) := by rw [← wC_eq, ← aw6]; exact under_Right.a [⟨wP, wQ⟩] kn1 (by simp) 2
  have h7 : Ans ctx under_Right.n [V.sl wC 1, .i .i64 6] (.b false) := by rw [← wC_eq, ← aw7]; exact under_Right.a [⟨wP, wQ⟩] kn1 (by simp) 6
  have h3 : Ans ctx under_Possible.n [V.sl wD 2, .i .i64 2] (.tu [.b false, sV cI [], .i .i64 0]) := by rw [← wD_eq, ← aw3]; exact under_Possible.a [⟨wP, wQ⟩, ⟨wT, wP⟩] kn2 (by simp) 2
  unfold wC at h1 h2 h4 h5 h6 h7
  unfold wD at h3
  have hI : Ans ctx ref08_Ints.n [V.sl [V.i .i64 1, V.i .i64 1] 2, V.sl [V.i .i64 1, V.i .i64 1] 2] (.b true) := ref08_Ints.a [1, 1] [1, 1] (by simp)
  have e11 : sV cI [1, 1] = V.sl [V.i .i64 1, V.i .i64 1] 2 := rfl
  simp +contextual (disch := omega) [Nat.add_assoc, Int.add_assoc, if_pos, if_neg, -Int.not_lt, -Int.not_le, -Nat.not_lt, -Nat.not_le, -List.length_flatMap, law12_awake.c]
  refine under_Leq.fr ?_
  simp +contextual (disch := omega) [Nat.add_assoc, Int.add_assoc, if_pos, if_neg, -Int.not_lt, -Int.not_le, -Nat.not_lt, -Nat.not_le, -List.length_flatMap]
  refine ansFK h1 ?_
  simp +contextual (disch := omega) [Nat.add_assoc, Int.add_assoc, if_pos, if_neg, -Int.not_lt, -Int.not_le, -Nat.not_lt, -Nat.not_le, -List.length_flatMap]
  refine under_Leq.fr ?_
  simp +contextual (disch := omega) [Nat.add_assoc, Int.add_assoc, if_pos, if_neg, -Int.not_lt, -Int.not_le, -Nat.not_lt, -Nat.not_le, -List.length_flatMap]
  refine ansFK h2 ?_
  simp +contextual (disch := omega) [Nat.add_assoc, Int.add_assoc, if_pos, if_neg, -Int.not_lt, -Int.not_le, -Nat.not_lt, -Nat.not_le, -List.length_flatMap, ansK h3, ansK h4]
  refine under_Leq.fr ?_
  simp +contextual (disch := omega) [Nat.add_assoc, Int.add_assoc, if_pos, if_neg, -Int.not_lt, -Int.not_le, -Nat.not_lt, -Nat.not_le, -List.length_flatMap]
  refine ansFK h5 ?_
  have hsc : (V.tu [V.b true, V.sl [V.i .i64 1, V.i .i64 1] 2, V.i .i64 0]).scal = false := rfl
  simp +contextual (disch := omega) [Nat.add_assoc, Int.add_assoc, if_pos, if_neg, -Int.not_lt, -Int.not_le, -Nat.not_lt, -Nat.not_le, -List.length_flatMap, ansK h6, ansK h7, ansK hI, e11, hsc]
end Pi


set_option linter.unusedSimpArgs false
set_option linter.unusedVariables false
namespace Pi
theorem firstU_some {f : Nat → Option (List Int)} {N : Nat} {v : List Int} (h : firstU f N = some v) : ∃ k, k < N ∧ f k = some v := by
  unfold firstU at h
  obtain ⟨k, hk, h1⟩ := List.exists_of_findSome?_eq_some h
  exact ⟨k, by simpa using hk, h1⟩
theorem valO_len {z : List Bool} {l : List C} {v : List Int} (h : valO z l = some v) : v.length = z.length := by
  unfold valO at h
  split at h
  · rename_i h0
    cases h
    unfold valsU
    rw [if_pos h0]
    simp [valsZ]
  · cases h
theorem possU_len (cs : List Kn) (n : Nat) : ((possU cs n).getD []).length ≤ n := by
  cases h : possU cs n with
  | none => simp
  | some v =>
    obtain ⟨k, _, h1⟩ := firstU_some h
    have := valO_len h1
    rw [caseP_len] at this
    simp [this]
theorem leqU_len (cs : List Kn) (a b : L) (n : Nat) : ((leqU cs a b n).getD []).length ≤ n := by
  cases h : leqU cs a b n with
  | none => simp
  | some v =>
    obtain ⟨k, _, h1⟩ := firstU_some h
    obtain ⟨u, _, h2⟩ := List.exists_of_findSome?_eq_some h1
    have := valO_len h2
    rw [caseP_len] at this
    simp [this]
theorem RightU_5 {cs : List Kn} {p : Int} (h : RightU cs p = true) : p.toNat ≤ 5 := by
  simp [RightU] at h
  omega
theorem leqOU_len (cs : List Kn) (p : Int) (a b : L) : ((leqOU cs p a b).getD []).length ≤ 5 := by
  unfold leqOU
  split
  · rename_i h
    unfold leqRU at h
    simp only [Bool.and_eq_true] at h
    have h1 := leqU_len cs a b p.toNat
    have h2 := RightU_5 h.1.1
    omega
  · simp
def possO (cs : List Kn) (p : Int) : Option (List Int) := if RightU cs p = true then possU cs p.toNat else none
theorem possV_eq (cs : List Kn) (p : Int) : possV cs p = .tu [.b (RightU cs p && (possU cs p.toNat).isSome), sV cI ((possO cs p).getD []), .i .i64 (if RightU cs p = true then 0 else 1)] := by
  unfold possV possO
  cases RightU cs p <;> simp
theorem possO_len (cs : List Kn) (p : Int) : ((possO cs p).getD []).length ≤ 5 := by
  unfold possO
  split
  · rename_i h
    have h1 := possU_len cs p.toNat
    have h2 := RightU_5 h
    omega
  · simp
set_option maxRecDepth 20000 in
set_option maxHeartbeats 4000000 in
theorem law12_same.a (cs : List Kn) (hc : ∀ c ∈ cs, c.Ok) (hl : cs.length ≤ 9223372036854775807) (p : Int) (a b : L) (oka : a.Ok) (okb : b.Ok) : Ans ctx law12_same.n [sV cK cs, .i .i64 p, .ag (cL a), .ag (cL b)] (.b true) := by
  refine ans law12_same.f ?_
  have h1 := under_Leq.r cs hc hl p a b oka okb
  have h2 := ref12_Leq.a cs hc hl p a b oka okb
  have h3 := under_Possible.a cs hc hl p
  have h4 := ref12_Possible.a cs hc hl p
  have h5 := under_Right.a cs hc hl p
  have h6 := ref12_Right.a cs hc hl p
  rw [leqUV_eq] at h2
  rw [possV_eq] at h3 h4
  have hln1 := leqOU_len cs p a b
  have hln2 := possO_len cs p
  have hI1 := ref08_Ints.a ((leqOU cs p a b).getD []) ((leqOU cs p a b).getD []) (by omega)
  have hI2 := ref08_Ints.a ((possO cs p).getD []) ((possO cs p).getD []) (by omega)
  generalize leqBU cs p a b = bb at *
  generalize leqEU cs p a b = ee at *
  generalize leqOU cs p a b = o at *
  generalize (RightU cs p && (possU cs p.toNat).isSome) = b2 at *
  generalize (if RightU cs p = true then (0 : Int) else 1) = e2 at *
  generalize possO cs p = o2 at *
  generalize RightU cs p = rr at *
  rw [decide_eq_true rfl] at hI1 hI2
  simp +contextual (disch := omega) [Nat.add_assoc, Int.add_assoc, if_pos, if_neg, -Int.not_lt, -Int.not_le, -Nat.not_lt, -Nat.not_le, -List.length_flatMap, law12_same.c]
  refine under_Leq.fr ?_
  simp +contextual (disch := omega) [Nat.add_assoc, Int.add_assoc, if_pos, if_neg, -Int.not_lt, -Int.not_le, -Nat.not_lt, -Nat.not_le, -List.length_flatMap]
  refine ansFK h1 ?_
  have hR := Rw.out o ((Sto.set (fun x => none) 0 (some (PObj.cells (cL a) false))).set 1 (some (PObj.cells (cL b) false))) 7
  have hC := outC_lt o ((Sto.set (fun x => none) 0 (some (PObj.cells (cL a) false))).set 1 (some (PObj.cells (cL b) false))) 7
  generalize fM _ 7 (outC o) = m1 at *
  generalize fX 7 (outC o) = x1 at *
  have q0 : m1 0 = some (.cells (cL a) false) := by rw [hC.2 0 (by omega)]; simp +contextual (disch := omega) [Nat.add_assoc, Int.add_assoc, if_pos, if_neg, -Int.not_lt, -Int.not_le, -Nat.not_lt, -Nat.not_le, -List.length_flatMap]
  have q1 : m1 1 = some (.cells (cL b) false) := by rw [hC.2 1 (by omega)]; simp +contextual (disch := omega) [Nat.add_assoc, Int.add_assoc, if_pos, if_neg, -Int.not_lt, -Int.not_le, -Nat.not_lt, -Nat.not_le, -List.length_flatMap]
  obtain ⟨ids, hz, _⟩ := hR.fz
  simp +contextual (disch := omega) [Nat.add_assoc, Int.add_assoc, if_pos, if_neg, -Int.not_lt, -Int.not_le, -Nat.not_lt, -Nat.not_le, -List.length_flatMap, q0, q1, ansK h2, ansK h3, ansK h4, ansK h5, ansK h6, hz, ansK hI1, ansK hI2]
end Pi


set_option linter.unusedSimpArgs false
set_option linter.unusedVariables false
namespace Pi
end Pi


set_option linter.unusedSimpArgs false
set_option linter.unusedVariables false
namespace Pi
end Pi


set_option linter.unusedSimpArgs false
set_option linter.unusedVariables false
namespace Pi
theorem frzL_un {D : Nat → Option (Bool × List V × List V × List Nat)} {v : V} {r w : List V} {ids : List Nat} (h : frzL D (v :: r) = some (w, ids)) : ∃ u z i j, w = u :: z ∧ frzW D v = some (u, i) ∧ frzL D r = some (z, j) := by
  rw [frzL_cons] at h
  cases h1 : frzW D v with
  | none => rw [h1] at h; simp at h
  | some p =>
    cases h2 : frzL D r with
    | none => rw [h1, h2] at h; simp at h
    | some q =>
      rw [h1, h2] at h
      simp at h
      exact ⟨p.1, q.1, p.2, q.2, h.1.symm, rfl, rfl⟩
theorem FzAt.tail {m : Sto} {lo x k : Nat} {v u : V} {r z : List V} (h : FzAt m lo x k (v :: r) (u :: z)) : (∀ m' : Sto, (∀ j, lo ≤ j → j < x → m' j = m j) → ∀ d, k ≤ d → ∃ ids, frzW (der m' d) v = some (u, ids)) ∧ FzAt m lo x k r z := by
  constructor
  · intro m' hm d hd
    obtain ⟨ids, h0⟩ := h m' hm d hd
    obtain ⟨u', z', i, j, e, h1, h2⟩ := frzL_un h0
    injection e with e1 e2
    exact ⟨i, by rw [h1, e1]⟩
  · intro m' hm d hd
    obtain ⟨ids, h0⟩ := h m' hm d hd
    obtain ⟨u', z', i, j, e, h1, h2⟩ := frzL_un h0
    injection e with e1 e2
    exact ⟨j, by rw [h2, e2]⟩
end Pi


set_option linter.unusedSimpArgs false
set_option linter.unusedVariables false
namespace Pi
/-- So many constraints that a maker makes, and how many it has picked then. -/
def consS (l : List Nat) (p : Nat) : Nat → Nat → List Kn × Nat
  | 0, i => ([], i)
  | k + 1, i => (⟨(mkS l p 0 3 i).1, (mkS l p 0 3 (mkS l p 0 3 i).2).1⟩ :: (consS l p k (mkS l p 0 3 (mkS l p 0 3 i).2).2).1, (consS l p k (mkS l p 0 3 (mkS l p 0 3 i).2).2).2)
theorem consS_len (l : List Nat) (p : Nat) : ∀ k i, (consS l p k i).1.length = k
  | 0, i => rfl
  | k + 1, i => by simp [consS, consS_len l p k]
theorem consS_ok (l : List Nat) (p : Nat) (hp : p ≤ 256) : ∀ k i, ∀ c ∈ (consS l p k i).1, c.Ok
  | 0, i, c, h => by cases h
  | k + 1, i, c, h => by
    rcases List.mem_cons.1 h with rfl | h
    · exact ⟨mkS_ok l p 0 (by omega) (by omega) 3 _, mkS_ok l p 0 (by omega) (by omega) 3 _⟩
    · exact consS_ok l p hp k _ c h
set_option maxRecDepth 20000 in
set_option maxHeartbeats 2000000 in
theorem cons_w (l : List Nat) (hb : Byt l) (p : Nat) (hp : p ≤ 256) (a : Nat) (n : Nat) (hn : n ≤ 10) (i : Nat) (hi : i ≤ 100000) {m : Sto} {x : Nat} {K : CR → Sto → Nat → Prop} (hax : a < x) (hm : m a = some (.cells [sV cU l, .i .i64 i] false))
    (hK : ∀ B m' x', x ≤ x' → m' a = some (.cells [sV cU l, .i .i64 ((consS l p (pickS l i (n + 1)) (i + 1)).2 : Nat)] false) → (∀ j, j < x → j ≠ a → m' j = m j) → Bn m' B cK 6 (consS l p (pickS l i (n + 1)) (i + 1)).1 x x' 4 → K (.ret B) m' x') :
    wpCall ctx (.fn (.func law12_Cons.n) [] []) [.p a 0, .i .i64 p, .i .i64 n] m x K := by
  refine open_w law12_Cons.f rfl (.inl rfl) ?_
  simp +contextual (disch := omega) [Nat.add_assoc, Int.add_assoc, if_pos, if_neg, -Int.not_lt, -Int.not_le, -Nat.not_lt, -Nat.not_le, -List.length_flatMap, law12_Cons.c]
  refine pick_w (l := l) (i := i) (n := n + 1) (by simp +contextual (disch := omega) [Nat.add_assoc, Int.add_assoc, if_pos, if_neg, -Int.not_lt, -Int.not_le, -Nat.not_lt, -Nat.not_le, -List.length_flatMap, hm]) hb (by omega) (by omega) ?_
  intro x1 hx1
  have hk := pickS_lt l i (n + 1) (by omega)
  generalize pickS l i (n + 1) = k at *
  obtain ⟨T, hT⟩ : ∃ T, T = consS l p k (i + 1) := ⟨_, rfl⟩
  rw [← hT] at hK
  have hTl : T.1.length = k := by rw [hT, consS_len]
  simp +contextual (disch := omega) [Nat.add_assoc, Int.add_assoc, if_pos, if_neg, -Int.not_lt, -Int.not_le, -Nat.not_lt, -Nat.not_le, -List.length_flatMap]
  refine for_w (fun r e m' x' => e 0 = .p a 0 ∧ e 1 = .i .i64 p ∧ e 8 = .i .i64 ((k : Int) - r) ∧ x ≤ x' ∧ (∀ j, j < x → j ≠ a → m' j = m j) ∧ ∃ (o : List Kn) (q : Nat), m' a = some (.cells [sV cU l, .i .i64 q] false) ∧ Bn m' (e 7) cK 6 o x x' 4 ∧ o.length = r ∧ q ≤ i + 1 + 512 * r ∧ o ++ (consS l p (k - r) q).1 = T.1 ∧ (consS l p (k - r) q).2 = T.2) k ?_ ?_ ?_
  · simp +contextual (disch := omega) [Nat.add_assoc, Int.add_assoc, if_pos, if_neg, -Int.not_lt, -Int.not_le, -Nat.not_lt, -Nat.not_le, -List.length_flatMap]
    exact ⟨by omega, [], i + 1, by omega, Bn.nil, rfl, by omega, by rw [hT]; rfl, by rw [hT]⟩
  · rintro r e m' x' hr ⟨g0, g1, g8, gx, gm, o, q, ga, gB, gl, gq, gT1, gT2⟩
    obtain ⟨k', hk'⟩ : ∃ k', k - r = k' + 1 := ⟨k - r - 1, by omega⟩
    have hk2 : k - (r + 1) = k' := by omega
    rw [hk2]
    rw [hk'] at gT1 gT2
    simp only [consS] at gT1 gT2
    have b1 := mkS_bd l p 0 3 q
    have b2 := mkS_bd l p 0 3 (mkS l p 0 3 q).2
    have h44 : 4 ^ (3 + 1) = 256 := by decide
    have hst := gB.stor
    have hsc := gB.cells
    generalize hV : e 7 = V7 at *
    simp +contextual (disch := omega) [Nat.add_assoc, Int.add_assoc, if_pos, if_neg, -Int.not_lt, -Int.not_le, -Nat.not_lt, -Nat.not_le, -List.length_flatMap, law12_Cons.b1, g0, g1, g8, hV, hr]
    refine made_w l hb p 0 hp (by omega) a 2 (by omega) q (by omega) (by omega) (by simp +contextual (disch := omega) [Nat.add_assoc, Int.add_assoc, if_pos, if_neg, -Int.not_lt, -Int.not_le, -Nat.not_lt, -Nat.not_le, -List.length_flatMap, ga]) ?_
    intro c1 m1 y1 hl1 ha1 hm1 hx1 hz1
    simp +contextual (disch := omega) [Nat.add_assoc, Int.add_assoc, if_pos, if_neg, -Int.not_lt, -Int.not_le, -Nat.not_lt, -Nat.not_le, -List.length_flatMap, g0, g1, g8, hV]
    refine made_w l hb p 0 hp (by omega) a 2 (by omega) (mkS l p 0 3 q).2 (by omega) (by omega) (by simp +contextual (disch := omega) [Nat.add_assoc, Int.add_assoc, if_pos, if_neg, -Int.not_lt, -Int.not_le, -Nat.not_lt, -Nat.not_le, -List.length_flatMap, ha1]) ?_
    intro c2 m2 y2 hl2 ha2 hm2 hx2 hz2
    generalize (mkS l p 0 3 (mkS l p 0 3 q).2) = R2 at *
    generalize (mkS l p 0 3 q) = R1 at *
    have hz := (hz1.up (m' := m2) (x' := y2) (by omega) (Nat.le_refl _) (fun j h1 h2 => hm2 j (by omega) (by omega))).app (hz2.low (lo' := x' + 5) (by omega))
    obtain ⟨a0, a1, a2, rfl⟩ : ∃ a0 a1 a2, c1 = [a0, a1, a2] := by
      match c1, hl1 with
      | [a, b, c], _ => exact ⟨a, b, c, rfl⟩
    obtain ⟨d0, d1, d2, rfl⟩ : ∃ a0 a1 a2, c2 = [a0, a1, a2] := by
      match c2, hl2 with
      | [a, b, c], _ => exact ⟨a, b, c, rfl⟩
    simp +contextual (disch := omega) [Nat.add_assoc, Int.add_assoc, if_pos, if_neg, -Int.not_lt, -Int.not_le, -Nat.not_lt, -Nat.not_le, -List.length_flatMap, g0, g1, g8, hV, hst, hsc, -apV_ns]
    refine gB.ap ⟨R1.1, R2.1⟩ (fun j h1 h2 => by rw [Sto.sne _ _ _ _ (by omega), hm2 j (by omega) (by omega), hm1 j (by omega) (by omega)]) (by omega) gx
      ((hz.up (m' := m2.set (y2 + 1) (some (litO 6 [a0, a1, a2, d0, d1, d2]))) (x' := y2 + 2) (k' := 4) (by omega) (by omega) (fun j h1 h2 => Sto.sne _ _ _ _ (by omega))).low (by omega)) rfl rfl (by omega) ?_
    intro B' ws m3 z0 z1 z2 z3
    have za : m3 a = some (.cells [sV cU l, .i .i64 (R2.2 : Nat)] false) := by rw [z2 a hax, Sto.sne _ _ _ _ (by omega), ha2]
    simp +contextual (disch := omega) [Nat.add_assoc, Int.add_assoc, if_pos, if_neg, -Int.not_lt, -Int.not_le, -Nat.not_lt, -Nat.not_le, -List.length_flatMap, z0, g0, g1, g8]
    refine ⟨by omega, by omega, fun j h1 h2 => ?_, o ++ [⟨R1.1, R2.1⟩], R2.2, za, z1.up (by omega) (fun _ _ _ => rfl), by simp [gl], by omega, by rw [List.append_assoc]; exact gT1, gT2⟩
    rw [z2 j (by omega), Sto.sne _ _ _ _ (by omega), hm2 j (by omega) (by omega), hm1 j (by omega) (by omega), gm j h1 h2]
  · rintro e m' x' ⟨g0, g1, g8, gx, gm, o, q, ga, gB, gl, gq, gT1, gT2⟩
    rw [Nat.sub_self] at gT1 gT2
    simp only [consS, List.append_nil] at gT1 gT2
    rw [gT1] at gB
    rw [gT2] at ga
    generalize hV : e 7 = V7 at *
    have hst := gB.stor
    have hsc := gB.cells
    simp +contextual (disch := omega) [Nat.add_assoc, Int.add_assoc, if_pos, if_neg, -Int.not_lt, -Int.not_le, -Nat.not_lt, -Nat.not_le, -List.length_flatMap, law12_Cons.b1, g0, g1, g8, hV]
    exact hK _ _ _ (by omega) ga gm (gB.up (by omega) (fun _ _ _ => rfl))
end Pi


set_option linter.unusedSimpArgs false
set_option linter.unusedVariables false
namespace Pi
theorem frzL_set {D : Nat → Option (Bool × List V × List V × List Nat)} {k : Go.IntKind} {n : Int} : ∀ {cs : List V} {r : List V × List Nat} (i : Nat), frzL D cs = some r → ∃ ids, frzL D (cs.set i (.i k n)) = some (r.1.set i (.i k n), ids)
  | [], r, i, h => by
    simp only [frzL, Option.some.injEq] at h
    subst h
    exact ⟨_, rfl⟩
  | c :: cs, r, i, h => by
    rw [frzL_cons] at h
    simp only [Option.bind_eq_some_iff, Option.some.injEq] at h
    obtain ⟨x, h1, y, h2, rfl⟩ := h
    cases i with
    | zero => exact ⟨_, by rw [List.set_cons_zero, frzL_cons, frzW_i, h2]; rfl⟩
    | succ i =>
      obtain ⟨ids, e⟩ := frzL_set (k := k) (n := n) i h2
      exact ⟨_, by rw [List.set_cons_succ, frzL_cons, h1, e]; rfl⟩
theorem FzX.set {m : Sto} {lo x a d : Nat} {cs out : List V} (h : FzX m lo x a d cs out) (i : Nat) (k : Go.IntKind) (n : Int) : FzX m lo x a d (cs.set i (.i k n)) (out.set i (.i k n)) := fun m' hm j hj => by
  obtain ⟨ids, e⟩ := h m' hm j hj
  exact frzL_set i e
section
variable {α : Type} {f : α → List V} {k : Nat}
theorem Bn.low {m : Sto} {B : V} {l : List α} {lo lo' x d : Nat} (h : Bn m B f k l lo x d) (hl : lo' ≤ lo) : Bn m B f k l lo' x d := by
  rcases h with h | ⟨a, cs, h1, h2, ⟨h3, h4⟩, h5, h6⟩
  · exact .inl h
  · exact .inr ⟨a, cs, h1, h2, ⟨h3, fun m' hm n hn => h4 m' (fun j q1 q2 q3 => hm j (by omega) q2 q3) n hn⟩, by omega, h6⟩
/-- One more, whose parts lie anywhere but in the list's own block. -/
theorem Bn.ap2 [h : Cel f k] {m m' : Sto} {B : V} {l : List α} (a : α) {lo x slot d n : Nat} {K : V → Ws → Prop} {ec : List V} (hB : Bn m B f k l lo x d) (hm : ∀ j, lo ≤ j → j < x → m' j = m j) (hx : x ≤ slot) (hlo : lo ≤ x)
    (he : ∀ b, b = slot ∨ (∃ n, B = .ms b 0 n k) → FzX m' lo slot b d ec (f a)) (hec : ec.length = k) (hn : n = 1) (hl : l.length + 1 ≤ 2147483648)
    (hK : ∀ ws m2, m'.app ws = m2 → Bn m2 (.ms slot 0 (l.length + 1) k) f k (l ++ [a]) lo (slot + 1) d → (∀ j, j < slot → (∀ n, B ≠ .ms j 0 n k) → m2 j = m' j) → K (.ms slot 0 (l.length + 1) k) ws) : opK (apV m' k B ec n slot) K := by
  subst hn
  rcases hB with ⟨rfl, rfl⟩ | ⟨b, cs, rfl, h2, ⟨h3, h4⟩, h5, h6⟩
  · rw [apV_ns, if_neg (by omega), if_pos (by decide)]
    refine hK _ _ rfl (.inr ⟨slot, ec, by simp, by simp, ⟨by simp [hec], ?_⟩, by omega, by omega⟩) (fun j hj1 hj2 => ?_)
    · simp only [List.nil_append, List.flatMap_cons, List.flatMap_nil, List.append_nil]
      refine (he slot (.inl rfl)).up (by omega) (.inl rfl) (fun j q1 q2 q3 => ?_)
      rw [sapp_cons, sapp_nil, Sto.sne _ _ _ _ (by simp only; omega)]
    · rw [sapp_cons, sapp_nil, Sto.sne _ _ _ _ (by simp only; omega)]
  · rw [apV_ms, if_neg (by omega), hm b h5 h6, h2, apO_cells, if_pos ⟨rfl, by rw [h3]; exact Nat.le_refl _, hl⟩, List.take_of_length_le (by rw [h3]; exact Nat.le_refl _)]
    have far : ∀ j, j ≠ b → j ≠ slot → (m'.app [(b, none), (slot, some (.cells (cs ++ ec) false))]) j = m' j := by
      intro j q1 q2
      rw [sapp_cons, sapp_cons, sapp_nil, Sto.sne _ _ _ _ (by simp only; omega), Sto.sne _ _ _ _ (by simp only; omega)]
    refine hK _ _ rfl (.inr ⟨slot, cs ++ ec, by simp, by simp, ⟨by simp [h3, hec, Nat.succ_mul], ?_⟩, by omega, by omega⟩) (fun j hj1 hj2 => far j (fun e => hj2 l.length (by rw [e])) (by omega))
    rw [List.flatMap_append]
    refine FzX.app (fun m3 q n hn => h4 m3 (fun j q1 q2 q3 => (q j q1 (by omega) (by omega)).trans ((far j q3 (by omega)).trans (hm j q1 q2))) n hn) ?_
    simp only [List.flatMap_cons, List.flatMap_nil, List.append_nil]
    exact fun m3 q n hn => he b (.inr ⟨_, rfl⟩) m3 (fun j q1 q2 q3 => (q j q1 (by omega) (by omega)).trans (far j q3 (by omega))) n hn
theorem Bn.get {m : Sto} {b n : Nat} {l : List α} {lo x d : Nat} (h : Bn m (.ms b 0 n k) f k l lo x d) : n = l.length ∧ lo ≤ b ∧ b < x ∧ ∃ cc, m b = some (.cells cc false) ∧ cc.length = l.length * k ∧ FzX m lo x b d cc (l.flatMap f) := by
  rcases h with ⟨h1, _⟩ | ⟨a, cs, h1, h2, ⟨h3, h4⟩, h5, h6⟩
  · cases h1
  · cases h1
    exact ⟨rfl, h5, h6, cs, h2, h3, h4⟩
/-- A number put into it. -/
theorem Bn.st {m : Sto} {b n : Nat} {l l' : List α} {lo x d : Nat} {cc : List V} (h : m b = some (.cells cc false)) (hl : cc.length = l.length * k) (hF : FzX m lo x b d cc (l.flatMap f)) (hb : lo ≤ b ∧ b < x) (i : Nat) (v : Int) (he : (l.flatMap f).set i (.i .i64 v) = l'.flatMap f) (hll : l'.length = l.length) (hn : n = l.length) :
    Bn (m.set b (some (.cells (cc.set i (.i .i64 v)) false))) (.ms b 0 n k) f k l' lo x d := by
  refine .inr ⟨b, cc.set i (.i .i64 v), by rw [hn, hll], by simp, ⟨by rw [List.length_set, hl, hll], ?_⟩, hb.1, hb.2⟩
  rw [← he]
  exact (hF.set i .i64 v).up (Nat.le_refl _) (.inl rfl) (fun j _ _ h3 => Sto.sne _ _ _ _ h3)
end
theorem cK_at (c : Kn) : cK c = [.i .i64 c.a.kind, .i .i64 c.a.n, sV cL c.a.kids, .i .i64 c.b.kind, .i .i64 c.b.n, sV cL c.b.kids] := by
  unfold cK
  rw [cL_at, cL_at]
  rfl
theorem L.Ok.put {l : L} (h : l.Ok) {k n : Int} (hk : -9223372036854775808 ≤ k ∧ k < 9223372036854775808) (hn : -9223372036854775808 ≤ n ∧ n < 9223372036854775808) : (L.mk k n l.kids).Ok := by
  cases l with
  | mk k0 n0 ks =>
    cases h with
    | mk h1 h2 h3 h4 => exact .mk h1 hk hn h4
theorem L.Ok.nb {l : L} (h : l.Ok) : (-9223372036854775808 ≤ l.kind ∧ l.kind < 9223372036854775808) ∧ (-9223372036854775808 ≤ l.n ∧ l.n < 9223372036854775808) := by
  cases l with
  | mk k0 n0 ks =>
    cases h with
    | mk h1 h2 h3 h4 => exact ⟨h2, h3⟩
set_option maxRecDepth 20000 in
set_option maxHeartbeats 8000000 in
theorem law12_UnderMade.a (l : List Nat) (hb : Byt l) (ll : l.length ≤ 9223372036854775807) (p : Nat) (hp : p < 256) (s : Nat) (hs : s < 256) (n : Int) (hn : -9223372036854775808 ≤ n ∧ n < 9223372036854775808) : Ans ctx law12_UnderMade.n [sV cU l, .i .u8 p, .i .u8 s, .i .i64 n] (.b true) := by
  refine ans law12_UnderMade.f ?_
  have hm4 : ((p : Int)).tmod 4 = ((p % 4 : Nat) : Int) := by rw [Int.tmod_eq_emod_of_nonneg (by omega)]; omega
  have hq4 : p % 4 < 4 := by omega
  generalize p % 4 = P at *
  have bd1 := (mkS_bd l P 0 3 0).2
  have bd2 := (mkS_bd l P 0 3 (mkS l P 0 3 0).2).2
  have h44 : 4 ^ (3 + 1) = 256 := by decide
  simp +contextual (disch := omega) [Nat.add_assoc, Int.add_assoc, if_pos, if_neg, -Int.not_lt, -Int.not_le, -Nat.not_lt, -Nat.not_le, -List.length_flatMap, law12_UnderMade.c, hm4]
  refine made_w l hb P 0 (by omega) (by omega) 7 2 (by omega) 0 (by omega) (by omega) (by simp +contextual (disch := omega) [Nat.add_assoc, Int.add_assoc, if_pos, if_neg, -Int.not_lt, -Int.not_le, -Nat.not_lt, -Nat.not_le, -List.length_flatMap]) ?_
  have okA := mkS_ok l P 0 (by omega) (by omega) 3 0
  have okB := mkS_ok l P 0 (by omega) (by omega) 3 (mkS l P 0 3 0).2
  intro c1 m1 x1 h1 h2 h3 h4 h5
  simp +contextual (disch := omega) [Nat.add_assoc, Int.add_assoc, if_pos, if_neg, -Int.not_lt, -Int.not_le, -Nat.not_lt, -Nat.not_le, -List.length_flatMap]
  refine made_w l hb P 0 (by omega) (by omega) 7 2 (by omega) (mkS l P 0 3 0).2 (by omega) (by omega) (by simp +contextual (disch := omega) [Nat.add_assoc, Int.add_assoc, if_pos, if_neg, -Int.not_lt, -Int.not_le, -Nat.not_lt, -Nat.not_le, -List.length_flatMap, h2]) ?_
  intro c2 m2 x2 q1 q2 q3 q4 q5
  obtain ⟨a0, a1, a2, rfl⟩ : ∃ a0 a1 a2, c1 = [a0, a1, a2] := by
    match c1, h1 with
    | [a, b, c], _ => exact ⟨a, b, c, rfl⟩
  obtain ⟨b0, b1, b2, rfl⟩ : ∃ a0 a1 a2, c2 = [a0, a1, a2] := by
    match c2, q1 with
    | [a, b, c], _ => exact ⟨a, b, c, rfl⟩
  generalize (mkS l P 0 3 (mkS l P 0 3 0).2) = R2 at *
  generalize (mkS l P 0 3 0) = R1 at *
  simp +contextual (disch := omega) [Nat.add_assoc, Int.add_assoc, if_pos, if_neg, -Int.not_lt, -Int.not_le, -Nat.not_lt, -Nat.not_le, -List.length_flatMap]
  refine cons_w l hb P (by omega) 7 4 (by omega) R2.2 (by omega) (by omega) (by simp +contextual (disch := omega) [Nat.add_assoc, Int.add_assoc, if_pos, if_neg, -Int.not_lt, -Int.not_le, -Nat.not_lt, -Nat.not_le, -List.length_flatMap, q2]) ?_
  intro B m3 x3 hx3 z7 z8 hB
  have hok := consS_ok l P (by omega) (pickS l R2.2 (4 + 1)) (R2.2 + 1)
  have hln := consS_len l P (pickS l R2.2 (4 + 1)) (R2.2 + 1)
  have hpk := pickS_lt l R2.2 (4 + 1) (by omega)
  generalize pickS l R2.2 (4 + 1) = kk at *
  generalize (consS l P kk (R2.2 + 1)).1 = cs at *
  generalize R2.1 = C at *
  generalize R1.1 = A at *
  have eA := cL_at A
  have eC := cL_at C
  obtain ⟨ta, hta⟩ : ∃ t, t = sV cL A.kids := ⟨_, rfl⟩
  obtain ⟨tc, htc⟩ : ∃ t, t = sV cL C.kids := ⟨_, rfl⟩
  rw [← hta] at eA
  rw [← htc] at eC
  generalize A.kind = ka at eA
  generalize A.n = na at eA
  generalize C.kind = kc at eC
  generalize C.n = nc at eC
  have hS : ∀ (ks : List Kn) (hc : ∀ c ∈ ks, c.Ok) (hl : ks.length ≤ 100) (q : Int), Ans ctx law12_same.n [sV cK ks, .i .i64 q, .ag [.i .i64 ka, .i .i64 na, ta], .ag [.i .i64 kc, .i .i64 nc, tc]] (.b true) := fun ks hc hl q => by
    have := law12_same.a ks hc (by omega) q A C okA okB
    rwa [eA, eC] at this
  have hS1 := law12_same.a cs hok (by omega) P A A okA okA
  rw [eA] at hS1
  have hX : ∀ (M : Sto) (lo x' b d : Nat), lo ≤ 11 → x2 ≤ x' → x2 ≤ b → 4 ≤ d → (∀ j, 8 ≤ j → j < x2 → M j = m2 j) → FzX M lo x' b d [a0, a1, a2, b0, b1, b2] (cK ⟨A, C⟩) := by
    intro M lo x' b d hlo hx hb hd hM
    have y1 := (h5.up (m' := M) (x' := x2) (k' := d) (by omega) (by omega) (fun j p1 p2 => (hM j (by omega) (by omega)).trans (q3 j (by omega) (by omega)))).low (lo' := 11) (by omega)
    have y2 := (q5.up (m' := M) (x' := x2) (k' := d) (by omega) (by omega) (fun j p1 p2 => hM j (by omega) (by omega))).low (lo' := 11) (by omega)
    exact (y1.app y2).x hlo hx (.inr hb)
  have hX1 : ∀ (M : Sto) (lo x' b d : Nat), lo ≤ 11 → x2 ≤ x' → x2 ≤ b → 4 ≤ d → (∀ j, 8 ≤ j → j < x2 → M j = m2 j) → FzX M lo x' b d [a0, a1, a2, a0, a1, a2] (cK ⟨A, A⟩) := by
    intro M lo x' b d hlo hx hb hd hM
    have y1 := (h5.up (m' := M) (x' := x2) (k' := d) (by omega) (by omega) (fun j p1 p2 => (hM j (by omega) (by omega)).trans (q3 j (by omega) (by omega)))).low (lo' := 11) (by omega)
    exact (y1.app y1).x hlo hx (.inr hb)
  rw [eA] at h5
  rw [eC] at q5
  obtain ⟨fa0, h5⟩ := h5.tail
  obtain ⟨fa1, h5⟩ := h5.tail
  obtain ⟨fa2, h5⟩ := h5.tail
  obtain ⟨fb0, q5⟩ := q5.tail
  obtain ⟨fb1, q5⟩ := q5.tail
  obtain ⟨fb2, q5⟩ := q5.tail
  have mem : ∀ M : Sto, (∀ j, 8 ≤ j → j < x2 → M j = m2 j) → ∀ d, 5 ≤ d → (∃ ids, frzW (der M d) a0 = some (.i .i64 ka, ids)) ∧ (∃ ids, frzW (der M d) a1 = some (.i .i64 na, ids)) ∧ (∃ ids, frzW (der M d) a2 = some (ta, ids)) ∧
      (∃ ids, frzW (der M d) b0 = some (.i .i64 kc, ids)) ∧ (∃ ids, frzW (der M d) b1 = some (.i .i64 nc, ids)) ∧ (∃ ids, frzW (der M d) b2 = some (tc, ids)) := fun M hM d hd =>
    have h1 : ∀ j, 11 ≤ j → j < x1 → M j = m1 j := fun j p1 p2 => (hM j (by omega) (by omega)).trans (q3 j (by omega) (by omega))
    have h2 : ∀ j, x1 + 2 ≤ j → j < x2 → M j = m2 j := fun j p1 p2 => hM j (by omega) p2
    ⟨fa0 M h1 d (by omega), fa1 M h1 d (by omega), fa2 M h1 d (by omega), fb0 M h2 d (by omega), fb1 M h2 d (by omega), fb2 M h2 d (by omega)⟩
  have ha3 : m3 x2 = some (.cells [a0, a1, a2] false) := by rw [z8 x2 (by omega) (by omega)]; simp +contextual (disch := omega) [Nat.add_assoc, Int.add_assoc, if_pos, if_neg, -Int.not_lt, -Int.not_le, -Nat.not_lt, -Nat.not_le, -List.length_flatMap]
  have hb3 : m3 (x2 + 1) = some (.cells [b0, b1, b2] false) := by rw [z8 (x2 + 1) (by omega) (by omega)]; simp +contextual (disch := omega) [Nat.add_assoc, Int.add_assoc, if_pos, if_neg, -Int.not_lt, -Int.not_le, -Nat.not_lt, -Nat.not_le, -List.length_flatMap]
  have hj3 : ∀ j, 8 ≤ j → j < x2 → m3 j = m2 j := fun j p1 p2 => by rw [z8 j (by omega) (by omega)]; simp +contextual (disch := omega) [Nat.add_assoc, Int.add_assoc, if_pos, if_neg, -Int.not_lt, -Int.not_le, -Nat.not_lt, -Nat.not_le, -List.length_flatMap]
  clear fa0 fa1 fa2 fb0 fb1 fb2 h3 q3 h2 q2 z8
  have hst := hB.stor
  have hsc := hB.cells
  have hlb := hB.len
  obtain ⟨⟨_, f1⟩, ⟨_, f2⟩, ⟨_, f3⟩, ⟨_, f4⟩, ⟨_, f5⟩, ⟨_, f6⟩⟩ := mem m3 hj3 24 (by omega)
  obtain ⟨_, hz⟩ := hB.fz24 (by omega)
  simp +contextual (disch := omega) [Nat.add_assoc, Int.add_assoc, if_pos, if_neg, -Int.not_lt, -Int.not_le, -Nat.not_lt, -Nat.not_le, -List.length_flatMap, ha3, hb3, f1, f2, f3, f4, f5, f6, hz, ansK (hS cs hok (by omega) P), ansK hS1, hst, hsc, -apV_ns]
  have hBb : ∀ b n, B = .ms b 0 n 6 → x2 + 2 ≤ b ∧ b < x3 := fun b n e => by
    rcases hB with ⟨rfl, _⟩ | ⟨a, c, rfl, _, _, h3, h4⟩
    · cases e
    · cases e; omega
  generalize hM4 : Sto.set m3 (x3 + 17) _ = M4
  have hM4j : ∀ j, j < x3 + 17 → M4 j = m3 j := fun j hj => by rw [← hM4, Sto.sne _ _ _ _ (by omega)]
  clear hM4 hz f1 f2 f3 f4 f5 f6
  refine (hB.low (lo' := 11) (by omega)).ap2 ⟨A, C⟩ (fun j p1 p2 => hM4j j (by omega)) (by omega) (by omega) (fun b hb' => hX M4 11 _ b 4 (by omega) (by omega) (by
    rcases hb' with rfl | ⟨n, e⟩
    · omega
    · have := hBb b n e; omega) (by omega) (fun j p1 p2 => (hM4j j (by omega)).trans (hj3 j p1 p2))) rfl rfl (by omega) ?_
  intro ws m5 w0 w1 w2
  have w3 : ∀ j, j < x2 + 2 → m5 j = m3 j := fun j hj => by rw [w2 j (by omega) (fun n e => by have := hBb j n e; omega), hM4j j (by omega)]
  have ha5 := (w3 x2 (by omega)).trans ha3
  have hb5 := (w3 (x2 + 1) (by omega)).trans hb3
  have hj5 : ∀ j, 8 ≤ j → j < x2 → m5 j = m2 j := fun j p1 p2 => (w3 j (by omega)).trans (hj3 j p1 p2)
  clear w3 w2 ha3 hb3 hj3 hM4j hB hBb hst hsc hlb
  have hs5 : ((s : Int)).tmod 5 = ((s % 5 : Nat) : Int) := by rw [Int.tmod_eq_emod_of_nonneg (by omega)]; omega
  have hr5 : s % 5 < 5 := by omega
  obtain ⟨r, hr⟩ : ∃ r, r = s % 5 := ⟨_, rfl⟩
  rw [← hr] at hs5 hr5
  have hok5 : ∀ c ∈ cs ++ [⟨A, C⟩], c.Ok := fun c hc => by
    rcases List.mem_append.1 hc with h | h
    · exact hok c h
    · rw [List.mem_singleton.1 h]; exact ⟨okA, okB⟩
  have hP3 : ¬ ((3 : Int) < P) := by omega
  obtain ⟨_, v1, v2, cc, v3, v4, v5⟩ := w1.get
  have hW := law12_awake.a
  by_cases r0 : r = 0
  · subst r0
    obtain ⟨c0, rs, hcr⟩ : ∃ c0 rs, cs ++ [⟨A, C⟩] = c0 :: rs := by
      cases cs with
      | nil => exact ⟨_, _, rfl⟩
      | cons a t => exact ⟨_, _, rfl⟩
    have hcl : cs.length + 1 = rs.length + 1 := by have := congrArg List.length hcr; simpa using this
    have h0 := hok5 c0 (by rw [hcr]; simp)
    have hB6 := Bn.st (n := cs.length + 1) (l' := ⟨.mk n c0.a.n c0.a.kids, c0.b⟩ :: rs) v3 v4 v5 ⟨v1, v2⟩ 0 n (by rw [hcr, List.flatMap_cons, List.flatMap_cons, cK_at, cK_at]; rfl) (by rw [hcr]; simp) (by simp)
    have hok6 : ∀ c ∈ (⟨.mk n c0.a.n c0.a.kids, c0.b⟩ :: rs : List Kn), c.Ok := fun c hc => by
      rcases List.mem_cons.1 hc with rfl | h
      · exact ⟨h0.1.put hn h0.1.nb.2, h0.2⟩
      · exact hok5 c (by rw [hcr]; simp [h])
    have hS6 := hS _ hok6 (by simp; omega) P
    have hset : cc.set 0 (.i .i64 n) = .i .i64 n :: cc.tail := by
      cases cc with
      | nil => simp at v4
      | cons a t => rfl
    rw [hset] at hB6
    have hcp : 0 < cc.length := by omega
    generalize (⟨.mk n c0.a.n c0.a.kids, c0.b⟩ :: rs : List Kn) = l6 at *
    simp +contextual (disch := omega) [Nat.add_assoc, Int.add_assoc, if_pos, if_neg, -Int.not_lt, -Int.not_le, -Nat.not_lt, -Nat.not_le, -List.length_flatMap, w0, hs5, v3, hcp]
    generalize (V.i .i64 n :: cc.tail) = c6 at *
    have k1 : ∀ j, j < x2 + 2 → (m5.set (x3 + 18) (some (.cells c6 false))) j = m5 j := fun j hj => Sto.sne _ _ _ _ (by omega)
    generalize Sto.set m5 (x3 + 18) _ = M at *
    obtain ⟨_, hz⟩ := hB6.fz24 (by omega)
    obtain ⟨⟨_, f1⟩, ⟨_, f2⟩, ⟨_, f3⟩, ⟨_, f4⟩, ⟨_, f5⟩, ⟨_, f6⟩⟩ := mem M (fun j p1 p2 => (k1 j (by omega)).trans (hj5 j p1 p2)) 24 (by omega)
    simp +contextual (disch := omega) [Nat.add_assoc, Int.add_assoc, if_pos, if_neg, -Int.not_lt, -Int.not_le, -Nat.not_lt, -Nat.not_le, -List.length_flatMap, ansK hW, (k1 x2 (by omega)).trans ha5, (k1 (x2 + 1) (by omega)).trans hb5, f1, f2, f3, f4, f5, f6, hz, -frzW_ms, ansK hS6, hP3]
  by_cases r1 : r = 1
  · subst r1
    have hfl : (cs.flatMap cK).length = cs.length * 6 := flat_len cs
    have hB6 := Bn.st (n := cs.length + 1) (l' := cs ++ [⟨A, .mk C.kind n C.kids⟩]) v3 v4 v5 ⟨v1, v2⟩ (cs.length * 6 + 4) n (by
      rw [List.flatMap_append, List.flatMap_append, List.set_append_right _ _ (by omega), hfl, Nat.add_sub_cancel_left]
      simp only [List.flatMap_cons, List.flatMap_nil, List.append_nil, cK_at]
      rfl) (by simp) (by simp)
    have hok6 : ∀ c ∈ cs ++ [(⟨A, .mk C.kind n C.kids⟩ : Kn)], c.Ok := fun c hc => by
      rcases List.mem_append.1 hc with h | h
      · exact hok c h
      · rw [List.mem_singleton.1 h]; exact ⟨okA, okB.put okB.nb.1 hn⟩
    have hS6 := hS _ hok6 (by simp; omega) P
    have hcp : cs.length * 6 + 4 < cc.length := by simp at v4; omega
    rw [List.set_eq_take_append_cons_drop, if_pos hcp] at hB6
    generalize (cs ++ [(⟨A, .mk C.kind n C.kids⟩ : Kn)]) = l6 at *
    simp +contextual (disch := omega) [Nat.add_assoc, Int.add_assoc, if_pos, if_neg, -Int.not_lt, -Int.not_le, -Nat.not_lt, -Nat.not_le, -List.length_flatMap, w0, hs5, v3, hcp]
    generalize (cc.take (cs.length * 6 + 4) ++ V.i .i64 n :: cc.drop (cs.length * 6 + 5)) = c6 at *
    have k1 : ∀ j, j < x2 + 2 → (m5.set (x3 + 18) (some (.cells c6 false))) j = m5 j := fun j hj => Sto.sne _ _ _ _ (by omega)
    generalize Sto.set m5 (x3 + 18) _ = M at *
    obtain ⟨_, hz⟩ := hB6.fz24 (by omega)
    obtain ⟨⟨_, f1⟩, ⟨_, f2⟩, ⟨_, f3⟩, ⟨_, f4⟩, ⟨_, f5⟩, ⟨_, f6⟩⟩ := mem M (fun j p1 p2 => (k1 j (by omega)).trans (hj5 j p1 p2)) 24 (by omega)
    simp +contextual (disch := omega) [Nat.add_assoc, Int.add_assoc, if_pos, if_neg, -Int.not_lt, -Int.not_le, -Nat.not_lt, -Nat.not_le, -List.length_flatMap, ansK hW, (k1 x2 (by omega)).trans ha5, (k1 (x2 + 1) (by omega)).trans hb5, f1, f2, f3, f4, f5, f6, hz, -frzW_ms, ansK hS6, hP3]
  clear v3 v4 v5
  by_cases r2 : r = 2
  · subst r2
    have hk3 : ((s : Int) / 5).tmod 3 = ((s / 5 % 3 : Nat) : Int) := by
      rw [Int.tmod_eq_emod_of_nonneg (by omega)]; omega
    have hk33 : s / 5 % 3 < 3 := by omega
    generalize s / 5 % 3 = k3 at *
    obtain ⟨N, hN⟩ : ∃ N, cs.length + 1 + N = 7 + k3 := ⟨6 + k3 - cs.length, by omega⟩
    simp +contextual (disch := omega) [Nat.add_assoc, Int.add_assoc, if_pos, if_neg, -Int.not_lt, -Int.not_le, -Nat.not_lt, -Nat.not_le, -List.length_flatMap, w0, hs5]
    refine for_w (fun i e m x => e 2 = .i .u8 s ∧ e 9 = .i .i64 P ∧ e 11 = .p x2 0 ∧ e 12 = .p (x2 + 1) 0 ∧ x3 ≤ x ∧ (∀ j, j < x2 + 2 → m j = m5 j) ∧ ∃ (b : Nat) (ls : List Kn), e 13 = .ms b 0 ls.length 6 ∧ Bn m (.ms b 0 ls.length 6) cK 6 ls 11 x 4 ∧ ls.length = cs.length + 1 + i ∧ x2 + 2 ≤ b ∧ ∀ c ∈ ls, c.Ok) N ?_ ?_ ?_
    · simp +contextual (disch := omega) [Nat.add_assoc, Int.add_assoc, if_pos, if_neg, -Int.not_lt, -Int.not_le, -Nat.not_lt, -Nat.not_le, -List.length_flatMap]
      exact ⟨_, cs ++ [⟨A, C⟩], ⟨rfl, by simp⟩, by rw [List.length_append]; exact w1.up (by omega) (fun _ _ _ => rfl), by simp, by omega, hok5⟩
    · rintro i e m x hi ⟨g2, g9, g11, g12, gx, gm, b, ls, g13, gB, gl, gb, gok⟩
      have ha6 := (gm x2 (by omega)).trans ha5
      obtain ⟨_, u1, u2, _⟩ := gB.get
      have hlt : (ls.length : Int) < 7 + k3 := by omega
      simp +contextual (disch := omega) [Nat.add_assoc, Int.add_assoc, if_pos, if_neg, -Int.not_lt, -Int.not_le, -Nat.not_lt, -Nat.not_le, -List.length_flatMap, law12_UnderMade.b1, g2, g9, g11, g12, g13, ha6, hk3, hlt, -apV_ns, -apV_ms]
      generalize hM4 : Sto.set m _ _ = M4
      have hM4j : ∀ j, j < x + 12 → M4 j = m j := fun j hj => by rw [← hM4, Sto.sne _ _ _ _ (by omega)]
      clear hM4
      refine gB.ap2 ⟨A, A⟩ (fun j p1 p2 => hM4j j (by omega)) (by omega) (by omega) (fun b' hb' => hX1 M4 11 _ b' 4 (by omega) (by omega) (by
        rcases hb' with rfl | ⟨n, e⟩
        · omega
        · injection e with e1; omega) (by omega) (fun j p1 p2 => (hM4j j (by omega)).trans ((gm j (by omega)).trans (hj5 j p1 p2)))) rfl rfl (by omega) ?_
      intro ws6 m6 w06 w16 w26
      have gm6 : ∀ j, j < x2 + 2 → m6 j = m5 j := fun j hj => by rw [w26 j (by omega) (fun n e => by injection e with e1; omega), hM4j j (by omega), gm j hj]
      simp +contextual (disch := omega) [Nat.add_assoc, Int.add_assoc, if_pos, if_neg, -Int.not_lt, -Int.not_le, -Nat.not_lt, -Nat.not_le, -List.length_flatMap, w06, g2, g9, g11, g12]
      refine ⟨by omega, gm6, _, ls ++ [⟨A, A⟩], ⟨rfl, by simp⟩, by rw [List.length_append]; exact w16.up (by omega) (fun _ _ _ => rfl), by simp; omega, by omega, fun c hc => ?_⟩
      rcases List.mem_append.1 hc with h | h
      · exact gok c h
      · rw [List.mem_singleton.1 h]; exact ⟨okA, okA⟩
    · rintro e m x ⟨g2, g9, g11, g12, gx, gm, b, ls, g13, gB, gl, gb, gok⟩
      have ha6 := (gm x2 (by omega)).trans ha5
      have hb6 := (gm (x2 + 1) (by omega)).trans hb5
      have hge : ¬ (ls.length : Int) < 7 + k3 := by omega
      obtain ⟨_, hz⟩ := gB.fz24 (by omega)
      obtain ⟨⟨_, f1⟩, ⟨_, f2⟩, ⟨_, f3⟩, ⟨_, f4⟩, ⟨_, f5⟩, ⟨_, f6⟩⟩ := mem m (fun j p1 p2 => (gm j (by omega)).trans (hj5 j p1 p2)) 24 (by omega)
      simp +contextual (disch := omega) [Nat.add_assoc, Int.add_assoc, if_pos, if_neg, -Int.not_lt, -Int.not_le, -Nat.not_lt, -Nat.not_le, -List.length_flatMap, law12_UnderMade.b1, g2, g9, g11, g12, g13, hk3, hge, ansK hW, ha6, hb6, f1, f2, f3, f4, f5, f6, hz, -frzW_ms, ansK (hS _ gok (by omega) P), hP3]
  obtain ⟨_, hz⟩ := w1.fz24 (by omega)
  obtain ⟨⟨_, f1⟩, ⟨_, f2⟩, ⟨_, f3⟩, ⟨_, f4⟩, ⟨_, f5⟩, ⟨_, f6⟩⟩ := mem m5 hj5 24 (by omega)
  have hl5 : (cs ++ [(⟨A, C⟩ : Kn)]).length ≤ 100 := by simp; omega
  by_cases r3 : r = 3
  · subst r3
    by_cases n1 : 3 < n
    · by_cases n2 : n ≤ 5
      · by_cases n3 : 3 < cs.length + 1
        · simp +contextual (disch := omega) [Nat.add_assoc, Int.add_assoc, if_pos, if_neg, -Int.not_lt, -Int.not_le, -Nat.not_lt, -Nat.not_le, -List.length_flatMap, w0, hs5, n1, n2, n3, ansK hW, ha5, hb5, f1, f2, f3, f4, f5, f6, hz, -frzW_ms, ansK (hS _ hok5 hl5 n)]
        · simp +contextual (disch := omega) [Nat.add_assoc, Int.add_assoc, if_pos, if_neg, -Int.not_lt, -Int.not_le, -Nat.not_lt, -Nat.not_le, -List.length_flatMap, w0, hs5, n1, n2, n3, ansK hW, ha5, hb5, f1, f2, f3, f4, f5, f6, hz, -frzW_ms, ansK (hS _ hok5 hl5 n)]
      · simp +contextual (disch := omega) [Nat.add_assoc, Int.add_assoc, if_pos, if_neg, -Int.not_lt, -Int.not_le, -Nat.not_lt, -Nat.not_le, -List.length_flatMap, w0, hs5, n1, n2, ansK hW, ha5, hb5, f1, f2, f3, f4, f5, f6, hz, -frzW_ms, ansK (hS _ hok5 hl5 n)]
    · simp +contextual (disch := omega) [Nat.add_assoc, Int.add_assoc, if_pos, if_neg, -Int.not_lt, -Int.not_le, -Nat.not_lt, -Nat.not_le, -List.length_flatMap, w0, hs5, n1, ansK hW, ha5, hb5, f1, f2, f3, f4, f5, f6, hz, -frzW_ms, ansK (hS _ hok5 hl5 n)]
  simp +contextual (disch := omega) [Nat.add_assoc, Int.add_assoc, if_pos, if_neg, -Int.not_lt, -Int.not_le, -Nat.not_lt, -Nat.not_le, -List.length_flatMap, w0, hs5, r0, r1, r2, r3, ansK hW, ha5, hb5, f1, f2, f3, f4, f5, f6, hz, -frzW_ms, ansK (hS _ hok5 hl5 P), hP3]
end Pi

