/- Flats and truths as a law's arguments. -/
import Derived.Test.YtjaoacpemboakaaRow
import Derived.Test.YtjaoacpemboakaaEncF
set_option linter.unusedSimpArgs false
set_option linter.unusedVariables false
namespace Pi
open Go (TypeId Program)
section
variable {P : Program} {n : Nat} {t e : TypeId}
theorem p_F {tI tS : TypeId} {fs : Array Go.Field} (hu : P.underlying t = some (.struct fs)) (hf : fs.toList.map (·.type) = [tI, tS]) (hI : P.underlying tI = some (.int .i64)) (hS : P.underlying tS = some (.slice tI))
    (m : Nat) (p : List V) (h : Tv P m t p) : ∃ a : F, p = cF a ∧ a.Ok := by
  obtain ⟨k, rfl, q⟩ := tv_st hu h
  rw [hf, TvF_cons] at q
  obtain ⟨p1, r1, rfl, _, h1, q⟩ := q
  rw [TvF_cons] at q
  obtain ⟨p2, r2, rfl, _, h2, q⟩ := q
  rw [TvF_nil] at q
  subst q
  obtain ⟨x, rfl, hx⟩ := tv_int hI h1
  obtain ⟨l, rfl, hl, hQ⟩ := tv_sl hS (fun m p hp hm => p_i64 hI m p hp) h2
  exact ⟨⟨x, l⟩, rfl, wf_i64 hx, hl, hQ⟩
theorem a_flat {tI tS : TypeId} {fs : Array Go.Field} (hu : P.underlying t = some (.struct fs)) (hf : fs.toList.map (·.type) = [tI, tS]) (hI : P.underlying tI = some (.int .i64)) (hS : P.underlying tS = some (.slice tI)) {v : V} (h : TvA P n t v) : ∃ a : F, v = .ag (cF a) ∧ a.Ok := by
  obtain ⟨vs, rfl, hh⟩ := tvA_st hu h
  obtain ⟨a, rfl, ha⟩ := p_F hu hf hI hS n vs hh
  exact ⟨a, rfl, ha⟩
theorem F.Ok.len {f : F} (h : f.Ok) : f.offs.length ≤ 9223372036854775807 := Nat.le_trans h.2.1 (by decide)
theorem p_bool (hu : P.underlying e = some .bool) (m : Nat) (p : List V) (h : Tv P m e p) : ∃ a : Bool, p = cB a ∧ True := by
  obtain ⟨x, rfl⟩ := tv_bool hu h
  exact ⟨x, rfl, trivial⟩
theorem a_bools (hu : P.underlying t = some (.slice e)) (he : P.underlying e = some .bool) {v : V} (h : TvA P n t v) : ∃ l : List Bool, v = sV cB l ∧ l.length ≤ 9223372036854775807 ∧ True := by
  obtain ⟨l, h1, h2, _⟩ := a_sl hu (p_bool he) h
  exact ⟨l, h1, by omega, trivial⟩
end
end Pi
