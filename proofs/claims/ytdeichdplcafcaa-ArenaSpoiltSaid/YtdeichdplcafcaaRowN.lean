/- Arenas as a law's arguments. -/
import Derived.Test.YtdeichdplcafcaaRow
import Derived.Test.YtdeichdplcafcaaEncN
set_option linter.unusedSimpArgs false
set_option linter.unusedVariables false
namespace Pi
open Go (TypeId Program)
section
variable {P : Program} {n : Nat} {t e : TypeId}
theorem p_N {tI : TypeId} {fs : Array Go.Field} (hu : P.underlying t = some (.struct fs)) (hf : fs.toList.map (·.type) = [tI, tI, tI, tI]) (hI : P.underlying tI = some (.int .i64))
    (m : Nat) (p : List V) (h : Tv P m t p) : ∃ a : N, p = cN a ∧ a.Ok := by
  obtain ⟨k, rfl, q⟩ := tv_st hu h
  rw [hf, TvF_cons] at q
  obtain ⟨p1, r1, rfl, _, h1, q⟩ := q
  rw [TvF_cons] at q
  obtain ⟨p2, r2, rfl, _, h2, q⟩ := q
  rw [TvF_cons] at q
  obtain ⟨p3, r3, rfl, _, h3, q⟩ := q
  rw [TvF_cons] at q
  obtain ⟨p4, r4, rfl, _, h4, q⟩ := q
  rw [TvF_nil] at q
  subst q
  obtain ⟨x, rfl, hx⟩ := tv_int hI h1
  obtain ⟨y, rfl, hy⟩ := tv_int hI h2
  obtain ⟨z, rfl, hz⟩ := tv_int hI h3
  obtain ⟨w, rfl, hw⟩ := tv_int hI h4
  exact ⟨⟨x, y, z, w⟩, rfl, wf_i64 hx, wf_i64 hy, wf_i64 hz, wf_i64 hw⟩
theorem a_arena {tS tN tI : TypeId} {fs gs : Array Go.Field} (hu : P.underlying t = some (.struct fs)) (hf : fs.toList.map (·.type) = [tS]) (hS : P.underlying tS = some (.slice tN)) (hN : P.underlying tN = some (.struct gs)) (hg : gs.toList.map (·.type) = [tI, tI, tI, tI]) (hI : P.underlying tI = some (.int .i64)) {v : V} (h : TvA P n t v) :
    ∃ a : List N, v = .ag [sV cN a] ∧ a.length ≤ 9223372036854775807 ∧ ∀ x ∈ a, x.Ok := by
  obtain ⟨vs, rfl, hh⟩ := tvA_st hu h
  obtain ⟨k, rfl, q⟩ := tv_st hu hh
  rw [hf, TvF_cons] at q
  obtain ⟨p1, r1, rfl, _, h1, q⟩ := q
  rw [TvF_nil] at q
  subst q
  obtain ⟨l, rfl, hl, hQ⟩ := tv_sl hS (fun m p hp hm => p_N hN hg hI m p hp) h1
  exact ⟨l, rfl, by omega, hQ⟩
theorem p_bytes {b : TypeId} (hu : P.underlying e = some (.slice b)) (he : P.underlying b = some (.int .u8)) (m : Nat) (p : List V) (h : Tv P m e p) : ∃ a : List Nat, p = cY a ∧ (a.length ≤ 9223372036854775807 ∧ Byt a) := by
  obtain ⟨l, rfl, hl, hQ⟩ := tv_sl hu (fun m p hp hm => p_u8 he m p hp) h
  exact ⟨l, rfl, by omega, hQ⟩
theorem a_bytess {b : TypeId} (hs : P.underlying t = some (.slice e)) (hu : P.underlying e = some (.slice b)) (he : P.underlying b = some (.int .u8)) {v : V} (h : TvA P n t v) :
    ∃ l : List (List Nat), v = sV cY l ∧ l.length ≤ 9223372036854775807 ∧ ∀ a ∈ l, a.length ≤ 9223372036854775807 ∧ Byt a := by
  obtain ⟨l, h1, h2, h3⟩ := a_sl hs (p_bytes hu he) h
  exact ⟨l, h1, by omega, h3⟩
end
end Pi
