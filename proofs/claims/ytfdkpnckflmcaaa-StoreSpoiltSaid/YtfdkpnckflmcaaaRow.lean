/- What the laws' arguments are: bytes, numbers, levels, clauses. -/
import Derived.Test.YtfdkpnckflmcaaaFw3
import Derived.Test.YtfdkpnckflmcaaaEnc
set_option linter.unusedSimpArgs false
set_option linter.unusedVariables false
namespace Pi
open Go (TypeId Program)
section
variable {P : Program} {n : Nat} {t e : TypeId}
theorem p_u8 (hu : P.underlying e = some (.int .u8)) (m : Nat) (p : List V) (h : Tv P m e p) : ∃ a : Nat, p = cU a ∧ a < 256 := by
  obtain ⟨x, rfl, hw⟩ := tv_int hu h
  have := wf_u8 hw
  exact ⟨x.toNat, by simp [cU]; omega, by omega⟩
theorem p_i64 (hu : P.underlying e = some (.int .i64)) (m : Nat) (p : List V) (h : Tv P m e p) : ∃ a : Int, p = cI a ∧ (-9223372036854775808 ≤ a ∧ a < 9223372036854775808) := by
  obtain ⟨x, rfl, hw⟩ := tv_int hu h
  exact ⟨x, rfl, wf_i64 hw⟩
theorem a_i64 (hu : P.underlying t = some (.int .i64)) {v : V} (h : TvA P n t v) : ∃ x, v = .i .i64 x ∧ (-9223372036854775808 ≤ x ∧ x < 9223372036854775808) := by
  obtain ⟨x, rfl, hw⟩ := a_int hu h
  exact ⟨x, rfl, wf_i64 hw⟩
theorem a_u8 (hu : P.underlying t = some (.int .u8)) {v : V} (h : TvA P n t v) : ∃ x : Nat, v = .i .u8 x ∧ x < 256 := by
  obtain ⟨x, rfl, hw⟩ := a_int hu h
  have := wf_u8 hw
  exact ⟨x.toNat, by simp; omega, by omega⟩
theorem a_bytes (hu : P.underlying t = some (.slice e)) (he : P.underlying e = some (.int .u8)) {v : V} (h : TvA P n t v) : ∃ l : List Nat, v = sV cU l ∧ l.length ≤ 9223372036854775807 ∧ Byt l := by
  obtain ⟨l, h1, h2, h3⟩ := a_sl hu (p_u8 he) h
  exact ⟨l, h1, by omega, h3⟩
theorem a_ints (hu : P.underlying t = some (.slice e)) (he : P.underlying e = some (.int .i64)) {v : V} (h : TvA P n t v) :
    ∃ l : List Int, v = sV cI l ∧ l.length ≤ 9223372036854775807 ∧ ∀ a ∈ l, -9223372036854775808 ≤ a ∧ a < 9223372036854775808 := by
  obtain ⟨l, h1, h2, h3⟩ := a_sl hu (p_i64 he) h
  exact ⟨l, h1, by omega, h3⟩
/-- Levels. -/
theorem p_L {tI tS : TypeId} {fs : Array Go.Field} (hu : P.underlying t = some (.struct fs)) (hf : fs.toList.map (·.type) = [tI, tI, tS]) (hI : P.underlying tI = some (.int .i64)) (hS : P.underlying tS = some (.slice t))
    (m : Nat) : ∀ (p : List V), Tv P m t p → ∃ a : L, p = cL a ∧ a.Ok := by
  induction m using Nat.strongRecOn with
  | ind m ih =>
    intro p h
    obtain ⟨k, rfl, q⟩ := tv_st hu h
    rw [hf, TvF_cons] at q
    obtain ⟨p1, r1, rfl, _, h1, q⟩ := q
    rw [TvF_cons] at q
    obtain ⟨p2, r2, rfl, _, h2, q⟩ := q
    rw [TvF_cons] at q
    obtain ⟨p3, r3, rfl, _, h3, q⟩ := q
    rw [TvF_nil] at q
    subst q
    obtain ⟨x, rfl, hx⟩ := tv_int hI h1
    obtain ⟨y, rfl, hy⟩ := tv_int hI h2
    obtain ⟨l, rfl, hl, hQ⟩ := tv_sl hS (fun m p hp hm => ih m (by omega) p hp) h3
    refine ⟨.mk x y l, ?_, .mk (by omega) (wf_i64 hx) (wf_i64 hy) hQ⟩
    rw [cL_at]
    rfl
theorem a_L {tI tS : TypeId} {fs : Array Go.Field} (hu : P.underlying t = some (.struct fs)) (hf : fs.toList.map (·.type) = [tI, tI, tS]) (hI : P.underlying tI = some (.int .i64)) (hS : P.underlying tS = some (.slice t))
    {v : V} (h : TvA P n t v) : ∃ a : L, v = .ag (cL a) ∧ a.Ok := by
  obtain ⟨vs, rfl, hh⟩ := tvA_st hu h
  obtain ⟨a, rfl, ha⟩ := p_L hu hf hI hS n vs hh
  exact ⟨a, rfl, ha⟩
end
end Pi
