/- Stores as a law's arguments. -/
import Derived.Test.YtfdkpnckflmcaaaRowC
import Derived.Test.YtfdkpnckflmcaaaEncS
set_option linter.unusedSimpArgs false
set_option linter.unusedVariables false
namespace Pi
open Go (TypeId Program)
section
variable {P : Program} {n : Nat} {t e : TypeId}
theorem a_store {tI tCs tC tS tA tIs : TypeId} {fs gs hs : Array Go.Field} (hu : P.underlying t = some (.struct fs)) (hf : fs.toList.map (·.type) = [tI, tCs, tIs]) (hI0 : P.underlying tI = some (.int .i64))
    (hCs : P.underlying tCs = some (.slice tC)) (hC : P.underlying tC = some (.struct gs)) (hg : gs.toList.map (·.type) = [tS, tA]) (hS : P.underlying tS = some (.slice tA))
    (hA : P.underlying tA = some (.struct hs)) (hh : hs.toList.map (·.type) = [tI, tI]) (hI : P.underlying tI = some (.int .i64)) (hIs : P.underlying tIs = some (.slice tI)) {v : V} (h : TvA P n t v) : ∃ s : St, v = .ag (cS s) ∧ s.Ok := by
  obtain ⟨vs, rfl, q0⟩ := tvA_st hu h
  obtain ⟨k, rfl, q⟩ := tv_st hu q0
  rw [hf, TvF_cons] at q
  obtain ⟨p1, r1, rfl, _, h1, q⟩ := q
  rw [TvF_cons] at q
  obtain ⟨p2, r2, rfl, _, h2, q⟩ := q
  rw [TvF_cons] at q
  obtain ⟨p3, r3, rfl, _, h3, q⟩ := q
  rw [TvF_nil] at q
  subst q
  obtain ⟨x, rfl, hx⟩ := tv_int hI h1
  obtain ⟨l, rfl, hl, hQ⟩ := tv_sl hCs (fun m p hp hm => p_C hC hg hS hA hh hI m p hp) h2
  obtain ⟨d, rfl, hd, hD⟩ := tv_sl hIs (fun m p hp hm => p_i64 hI m p hp) h3
  exact ⟨⟨x, l, d⟩, rfl, wf_i64 hx, by simp only; omega, hQ, by simp only; omega, hD⟩
end
end Pi
