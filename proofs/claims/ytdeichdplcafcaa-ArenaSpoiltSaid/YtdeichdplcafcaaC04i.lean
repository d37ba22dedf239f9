/- Contracts: arenas (layer 4): Put as the document has it. -/
import Derived.Test.YtdeichdplcafcaaC04h
set_option linter.unusedSimpArgs false
set_option linter.unusedVariables false
namespace Pi
def putV (l : List N) (k : L) : V :=
  if rightN l = true ∧ RightS k 5 10 = true then
    (if (putN k l).1.length ≤ 1000 then .tu [.ag [sV cN (putN k l).1], .i .i64 (putN k l).2, .i .i64 0] else .tu [.ag [sV cN l], .i .i64 0, .i .i64 2])
  else .tu [.ag [sV cN l], .i .i64 0, .i .i64 1]
theorem RightS_d {k : L} (h : RightS k 5 10 = true) : rightS k 5 10 (12 : Nat) = true := by
  unfold RightS at h
  split at h
  · cases h
  · simp only [Bool.and_eq_true] at h
    exact h.2
theorem own_q (l : List N) (hl : l.length ≤ 1000000) {m : Sto} {x : Nat} {K : QR → Prop}
    (hK : ∀ B ws ids m2 x', m.app ws = m2 → x ≤ x' → Eg m2 B cN 4 l x x' → (∀ j, j < x → m2 j = m j) → (∀ l ∈ ids, x ≤ l ∧ l < x') → ws.map Prod.fst = ids → K ⟨.ag [B], ws, ids, x'⟩) :
    wpQuiet ctx (.fn (.func ref04_own.n) [] []) [.ag [sV cN l]] m x K := by
  refine openq_w rfl rfl rfl rfl (a := [.ag [sV cN l]]) (by simp [freezeL]) ?_
  refine ref04_own.w l hl rfl ?_
  intro B m' x' h1 h2 h3 h4
  obtain ⟨i1, i2⟩ := h4 (fun j => decide (x ≤ j)) (fun j hj => by simpa using hj) (fun j _ => rfl)
  refine ⟨by rw [over_inn]; simp [V.inn, innL, i2], fun j q1 q2 => by rw [ownO_inn]; exact i1 j (by simpa using q1), fun ws ids w1 w2 w3 => ?_⟩
  have hxx : x + (x' - x) = x' := by omega
  rw [hxx]
  refine hK B ws ids _ x' rfl h1 ?_ (fun j hj => ?_) w1 w2
  · rcases h3 with h | ⟨b, rfl, z1, z2, z3⟩
    · exact .inl h
    · exact .inr ⟨b, rfl, by rw [w3 m, if_pos ⟨z2, z3⟩, z1], z2, z3⟩
  · rw [w3 m, if_neg (by omega)]
end Pi
