/- Laws of layer 12: same; constraints by numbers. -/
import Derived.Test.YtbkkigmlkafeiaaC12f
import Derived.Test.YtbkkigmlkafeiaaC09e
import Derived.Test.YtbkkigmlkafeiaaEnc
set_option linter.unusedSimpArgs false
set_option linter.unusedVariables false
namespace Pi
theorem firstU_some {f : Nat → Option (List Int)} {N : Nat} {v : List Int} (h : firstU f N = some v) : ∃ k, k < N ∧ f k = some v := by
  unfold firstU at h
  obtain ⟨k, hk, h1⟩ := List.exists_of_findSome?_eq_some h
  exact ⟨k, by simpa using hk, h1⟩
theorem valO_len {z : List Bool} {l : List C} {v : List Int} (h : valO z l = some v) : v.length = z.length := by
  unfold valO at h
  split at h
  · rename_i h0
    cases h
    unfold valsU
    rw [if_pos h0]
    simp [valsZ]
  · cases h
theorem possU_len (cs : List Kn) (n : Nat) : ((possU cs n).getD []).length ≤ n := by
  cases h : possU cs n with
  | none => simp
  | some v =>
    obtain ⟨k, _, h1⟩ := firstU_some h
    have := valO_len h1
    rw [caseP_len] at this
    simp [this]
theorem leqU_len (cs : List Kn) (a b : L) (n : Nat) : ((leqU cs a b n).getD []).length ≤ n := by
  cases h : leqU cs a b n with
  | none => simp
  | some v =>
    obtain ⟨k, _, h1⟩ := firstU_some h
    obtain ⟨u, _, h2⟩ := List.exists_of_findSome?_eq_some h1
    have := valO_len h2
    rw [caseP_len] at this
    simp [this]
theorem RightU_5 {cs : List Kn} {p : Int} (h : RightU cs p = true) : p.toNat ≤ 5 := by
  simp [RightU] at h
  omega
theorem leqOU_len (cs : List Kn) (p : Int) (a b : L) : ((leqOU cs p a b).getD []).length ≤ 5 := by
  unfold leqOU
  split
  · rename_i h
    unfold leqRU at h
    simp only [Bool.and_eq_true] at h
    have h1 := leqU_len cs a b p.toNat
    have h2 := RightU_5 h.1.1
    omega
  · simp
def possO (cs : List Kn) (p : Int) : Option (List Int) := if RightU cs p = true then possU cs p.toNat else none
theorem possV_eq (cs : List Kn) (p : Int) : possV cs p = .tu [.b (RightU cs p && (possU cs p.toNat).isSome), sV cI ((possO cs p).getD []), .i .i64 (if RightU cs p = true then 0 else 1)] := by
  unfold possV possO
  cases RightU cs p <;> simp
theorem possO_len (cs : List Kn) (p : Int) : ((possO cs p).getD []).length ≤ 5 := by
  unfold possO
  split
  · rename_i h
    have h1 := possU_len cs p.toNat
    have h2 := RightU_5 h
    omega
  · simp
set_option maxRecDepth 20000 in
set_option maxHeartbeats 4000000 in
theorem law12_same.a (cs : List Kn) (hc : ∀ c ∈ cs, c.Ok) (hl : cs.length ≤ 9223372036854775807) (p : Int) (a b : L) (oka : a.Ok) (okb : b.Ok) : Ans ctx law12_same.n [sV cK cs, .i .i64 p, .ag (cL a), .ag (cL b)] (.b true) := by
  refine ans law12_same.f ?_
  have h1 := under_Leq.r cs hc hl p a b oka okb
  have h2 := ref12_Leq.a cs hc hl p a b oka okb
  have h3 := under_Possible.a cs hc hl p
  have h4 := ref12_Possible.a cs hc hl p
  have h5 := under_Right.a cs hc hl p
  have h6 := ref12_Right.a cs hc hl p
  rw [leqUV_eq] at h2
  rw [possV_eq] at h3 h4
  have hln1 := leqOU_len cs p a b
  have hln2 := possO_len cs p
  have hI1 := ref08_Ints.a ((leqOU cs p a b).getD []) ((leqOU cs p a b).getD []) (by omega)
  have hI2 := ref08_Ints.a ((possO cs p).getD []) ((possO cs p).getD []) (by omega)
  generalize leqBU cs p a b = bb at *
  generalize leqEU cs p a b = ee at *
  generalize leqOU cs p a b = o at *
  generalize (RightU cs p && (possU cs p.toNat).isSome) = b2 at *
  generalize (if RightU cs p = true then (0 : Int) else 1) = e2 at *
  generalize possO cs p = o2 at *
  generalize RightU cs p = rr at *
  rw [decide_eq_true rfl] at hI1 hI2
  simp +contextual (disch := omega) [Nat.add_assoc, Int.add_assoc, if_pos, if_neg, -Int.not_lt, -Int.not_le, -Nat.not_lt, -Nat.not_le, -List.length_flatMap, law12_same.c]
  refine under_Leq.fr ?_
  simp +contextual (disch := omega) [Nat.add_assoc, Int.add_assoc, if_pos, if_neg, -Int.not_lt, -Int.not_le, -Nat.not_lt, -Nat.not_le, -List.length_flatMap]
  refine ansFK h1 ?_
  have hR := Rw.out o ((Sto.set (fun x => none) 0 (some (PObj.cells (cL a) false))).set 1 (some (PObj.cells (cL b) false))) 7
  have hC := outC_lt o ((Sto.set (fun x => none) 0 (some (PObj.cells (cL a) false))).set 1 (some (PObj.cells (cL b) false))) 7
  generalize fM _ 7 (outC o) = m1 at *
  generalize fX 7 (outC o) = x1 at *
  have q0 : m1 0 = some (.cells (cL a) false) := by rw [hC.2 0 (by omega)]; simp +contextual (disch := omega) [Nat.add_assoc, Int.add_assoc, if_pos, if_neg, -Int.not_lt, -Int.not_le, -Nat.not_lt, -Nat.not_le, -List.length_flatMap]
  have q1 : m1 1 = some (.cells (cL b) false) := by rw [hC.2 1 (by omega)]; simp +contextual (disch := omega) [Nat.add_assoc, Int.add_assoc, if_pos, if_neg, -Int.not_lt, -Int.not_le, -Nat.not_lt, -Nat.not_le, -List.length_flatMap]
  obtain ⟨ids, hz, _⟩ := hR.fz
  simp +contextual (disch := omega) [Nat.add_assoc, Int.add_assoc, if_pos, if_neg, -Int.not_lt, -Int.not_le, -Nat.not_lt, -Nat.not_le, -List.length_flatMap, q0, q1, ansK h2, ansK h3, ansK h4, ansK h5, ansK h6, hz, ansK hI1, ansK hI2]
end Pi


set_option linter.unusedSimpArgs false
set_option linter.unusedVariables false
namespace Pi
theorem nodes201 (l : L) : 1 ≤ nodesS l 201 ∧ nodesS l 201 ≤ 201 := by
  have := nodesS_bd l 201
  omega
set_option maxRecDepth 20000 in
set_option maxHeartbeats 2000000 in
theorem law12_UnderAny.a (cs : List Kn) (hc : ∀ c ∈ cs, c.Ok) (hl : cs.length ≤ 9223372036854775807) (p : Int) (a b : L) (oka : a.Ok) (okb : b.Ok) : Ans ctx law12_UnderAny.n [sV cK cs, .i .i64 p, .ag (cL a), .ag (cL b)] (.b true) := by
  refine ans law12_UnderAny.f ?_
  have hA := ref02_Nodes.a a oka 201 (by omega) (by omega)
  have hB := ref02_Nodes.a b okb 201 (by omega) (by omega)
  have hS := law12_same.a cs hc hl p a b oka okb
  have hW := law12_awake.a
  have n1 := nodes201 a
  have n2 := nodes201 b
  simp +contextual (disch := omega) [Nat.add_assoc, Int.add_assoc, if_pos, if_neg, -Int.not_lt, -Int.not_le, -Nat.not_lt, -Nat.not_le, -List.length_flatMap, law12_UnderAny.c, ansK hA, ansK hB]
  refine for_w (fun i e m x => e 0 = sV cK cs ∧ e 1 = .i .i64 p ∧ e 6 = .p 0 0 ∧ e 7 = .p 1 0 ∧ e 10 = .i .i64 i ∧ m 0 = some (.cells (cL a) false) ∧ m 1 = some (.cells (cL b) false) ∧ 2 ≤ x ∧ ∃ N : Int, e 9 = .i .i64 N ∧ 0 ≤ N ∧ N ≤ 1000) cs.length ?_ ?_ ?_
  · simp +contextual (disch := omega) [Nat.add_assoc, Int.add_assoc, if_pos, if_neg, -Int.not_lt, -Int.not_le, -Nat.not_lt, -Nat.not_le, -List.length_flatMap]
    omega
  · rintro i e m x hi ⟨g0, g1, g6, g7, g10, gm0, gm1, gx, N, g9, gN0, gN1⟩
    have hcA := ref02_Nodes.a cs[i].a (hc _ (List.getElem_mem hi)).1 201 (by omega) (by omega)
    have hcB := ref02_Nodes.a cs[i].b (hc _ (List.getElem_mem hi)).2 201 (by omega) (by omega)
    have k1 := nodes201 cs[i].a
    have k2 := nodes201 cs[i].b
    by_cases h : N ≤ 200
    · simp +contextual (disch := omega) [Nat.add_assoc, Int.add_assoc, if_pos, if_neg, -Int.not_lt, -Int.not_le, -Nat.not_lt, -Nat.not_le, -List.length_flatMap, law12_UnderAny.b1, g0, g1, g6, g7, g9, g10, gm0, gm1, hi, h, ansK hcA, ansK hcB]
      omega
    · simp +contextual (disch := omega) [Nat.add_assoc, Int.add_assoc, if_pos, if_neg, -Int.not_lt, -Int.not_le, -Nat.not_lt, -Nat.not_le, -List.length_flatMap, law12_UnderAny.b1, g0, g1, g6, g7, g9, g10, gm0, gm1, hi, h, ansK hW, ansK hS]
  · rintro e m x ⟨g0, g1, g6, g7, g10, gm0, gm1, gx, N, g9, gN0, gN1⟩
    by_cases h : 200 < N
    · simp +contextual (disch := omega) [Nat.add_assoc, Int.add_assoc, if_pos, if_neg, -Int.not_lt, -Int.not_le, -Nat.not_lt, -Nat.not_le, -List.length_flatMap, law12_UnderAny.b1, g0, g1, g6, g7, g9, g10, gm0, gm1, h, ansK hW, ansK hS]
    · by_cases h2 : 10 < cs.length
      · simp +contextual (disch := omega) [Nat.add_assoc, Int.add_assoc, if_pos, if_neg, -Int.not_lt, -Int.not_le, -Nat.not_lt, -Nat.not_le, -List.length_flatMap, law12_UnderAny.b1, g0, g1, g6, g7, g9, g10, gm0, gm1, h, h2, ansK hW, ansK hS]
      · simp +contextual (disch := omega) [Nat.add_assoc, Int.add_assoc, if_pos, if_neg, -Int.not_lt, -Int.not_le, -Nat.not_lt, -Nat.not_le, -List.length_flatMap, law12_UnderAny.b1, g0, g1, g6, g7, g9, g10, gm0, gm1, h, h2, ansK hW, ansK hS]
end Pi


set_option linter.unusedSimpArgs false
set_option linter.unusedVariables false
namespace Pi
open Go (TypeId Program)
section
variable {P : Program} {n : Nat} {t e : TypeId}
theorem p_K {tL tI tS : TypeId} {fs gs : Array Go.Field} (hu : P.underlying t = some (.struct fs)) (hf : fs.toList.map (·.type) = [tL, tL]) (hL : P.underlying tL = some (.struct gs)) (hg : gs.toList.map (·.type) = [tI, tI, tS]) (hI : P.underlying tI = some (.int .i64)) (hS : P.underlying tS = some (.slice tL))
    (m : Nat) (p : List V) (h : Tv P m t p) : ∃ a : Kn, p = cK a ∧ a.Ok := by
  obtain ⟨k, rfl, q⟩ := tv_st hu h
  rw [hf, TvF_cons] at q
  obtain ⟨p1, r1, rfl, _, h1, q⟩ := q
  rw [TvF_cons] at q
  obtain ⟨p2, r2, rfl, _, h2, q⟩ := q
  rw [TvF_nil] at q
  subst q
  obtain ⟨x, rfl, hx⟩ := p_L hL hg hI hS _ _ h1
  obtain ⟨y, rfl, hy⟩ := p_L hL hg hI hS _ _ h2
  exact ⟨⟨x, y⟩, by rw [List.append_nil]; rfl, hx, hy⟩
theorem a_cons {tL tI tS : TypeId} {fs gs : Array Go.Field} (hs : P.underlying t = some (.slice e)) (hu : P.underlying e = some (.struct fs)) (hf : fs.toList.map (·.type) = [tL, tL]) (hL : P.underlying tL = some (.struct gs)) (hg : gs.toList.map (·.type) = [tI, tI, tS]) (hI : P.underlying tI = some (.int .i64)) (hS : P.underlying tS = some (.slice tL)) {v : V} (h : TvA P n t v) :
    ∃ l : List Kn, v = sV cK l ∧ l.length ≤ 9223372036854775807 ∧ ∀ a ∈ l, a.Ok := by
  obtain ⟨l, h1, h2, h3⟩ := a_sl hs (p_K hu hf hL hg hI hS) h
  exact ⟨l, h1, by omega, h3⟩
end
end Pi

