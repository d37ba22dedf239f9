/- Atoms and clauses as a law's arguments. -/
import Derived.Test.YtfdkpnckflmcaaaRow
import Derived.Test.YtfdkpnckflmcaaaEncC
set_option linter.unusedSimpArgs false
set_option linter.unusedVariables false
namespace Pi
open Go (TypeId Program)
section
variable {P : Program} {n : Nat} {t e : TypeId}
theorem p_A {tI : TypeId} {fs : Array Go.Field} (hu : P.underlying t = some (.struct fs)) (hf : fs.toList.map (·.type) = [tI, tI]) (hI : P.underlying tI = some (.int .i64))
    (m : Nat) (p : List V) (h : Tv P m t p) : ∃ a : A, p = cA a ∧ a.Ok := by
  obtain ⟨k, rfl, q⟩ := tv_st hu h
  rw [hf, TvF_cons] at q
  obtain ⟨p1, r1, rfl, _, h1, q⟩ := q
  rw [TvF_cons] at q
  obtain ⟨p2, r2, rfl, _, h2, q⟩ := q
  rw [TvF_nil] at q
  subst q
  obtain ⟨x, rfl, hx⟩ := tv_int hI h1
  obtain ⟨y, rfl, hy⟩ := tv_int hI h2
  exact ⟨⟨x, y⟩, rfl, wf_i64 hx, wf_i64 hy⟩
theorem a_atom {tI : TypeId} {fs : Array Go.Field} (hu : P.underlying t = some (.struct fs)) (hf : fs.toList.map (·.type) = [tI, tI]) (hI : P.underlying tI = some (.int .i64)) {v : V} (h : TvA P n t v) : ∃ a : A, v = .ag (cA a) ∧ a.Ok := by
  obtain ⟨vs, rfl, hh⟩ := tvA_st hu h
  obtain ⟨a, rfl, ha⟩ := p_A hu hf hI n vs hh
  exact ⟨a, rfl, ha⟩
theorem a_atoms {tI : TypeId} {fs : Array Go.Field} (hs : P.underlying t = some (.slice e)) (hu : P.underlying e = some (.struct fs)) (hf : fs.toList.map (·.type) = [tI, tI]) (hI : P.underlying tI = some (.int .i64)) {v : V} (h : TvA P n t v) :
    ∃ l : List A, v = sV cA l ∧ l.length ≤ 140737488351232 ∧ ∀ a ∈ l, a.Ok := a_sl hs (p_A hu hf hI) h
theorem p_C {tS tA tI : TypeId} {fs gs : Array Go.Field} (hu : P.underlying t = some (.struct fs)) (hf : fs.toList.map (·.type) = [tS, tA]) (hS : P.underlying tS = some (.slice tA))
    (hA : P.underlying tA = some (.struct gs)) (hg : gs.toList.map (·.type) = [tI, tI]) (hI : P.underlying tI = some (.int .i64)) (m : Nat) (p : List V) (h : Tv P m t p) : ∃ a : C, p = cC a ∧ a.Ok := by
  obtain ⟨k, rfl, q⟩ := tv_st hu h
  rw [hf, TvF_cons] at q
  obtain ⟨p1, r1, rfl, _, h1, q⟩ := q
  rw [TvF_cons] at q
  obtain ⟨p2, r2, rfl, _, h2, q⟩ := q
  rw [TvF_nil] at q
  subst q
  obtain ⟨l, rfl, hl, hQ⟩ := tv_sl hS (fun m p hp hm => p_A hA hg hI m p hp) h1
  obtain ⟨a, rfl, ha⟩ := p_A hA hg hI _ _ h2
  exact ⟨⟨l, a⟩, rfl, hl, hQ, ha⟩
theorem a_clauses {tS tA tI : TypeId} {fs gs : Array Go.Field} (hs : P.underlying t = some (.slice e)) (hu : P.underlying e = some (.struct fs)) (hf : fs.toList.map (·.type) = [tS, tA]) (hS : P.underlying tS = some (.slice tA))
    (hA : P.underlying tA = some (.struct gs)) (hg : gs.toList.map (·.type) = [tI, tI]) (hI : P.underlying tI = some (.int .i64)) {v : V} (h : TvA P n t v) :
    ∃ l : List C, v = sV cC l ∧ l.length ≤ 9223372036854775807 ∧ ∀ a ∈ l, a.Ok := by
  obtain ⟨l, h1, h2, h3⟩ := a_sl hs (p_C hu hf hS hA hg hI) h
  exact ⟨l, h1, by omega, h3⟩
end
end Pi
