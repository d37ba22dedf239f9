/- Laws of layer 4: any arenas. -/
import Derived.Test.YtdeichdplcafcaaC04k
import Derived.Test.YtdeichdplcafcaaC02h
set_option linter.unusedSimpArgs false
set_option linter.unusedVariables false
namespace Pi
set_option maxRecDepth 100000 in
theorem law04_awake.a : Ans ctx law04_awake.n [] (.b true) := ans_told (n := 1500) (by kernel_rfl)
theorem putV_tu (l : List N) (k : L) (hl : l.length ≤ 1000000) : ∃ ns a e, putV l k = .tu [.ag [sV cN ns], .i .i64 a, .i .i64 e] ∧ ns.length ≤ 1000000 := by
  unfold putV
  split
  · split
    · exact ⟨_, _, _, rfl, by omega⟩
    · exact ⟨_, _, _, rfl, hl⟩
  · exact ⟨_, _, _, rfl, hl⟩
theorem fit_bd {x : N} {i : Int} (h : fitN x i = true) : (1 ≤ x.kind ∧ x.kind ≤ 6) ∧ 0 ≤ x.n ∧ x.n < 10 := by
  unfold fitN mostN at h
  simp only [Bool.and_eq_true, decide_eq_true_eq] at h
  have := kidsS_cases x.kind
  have h2 := h.2
  refine ⟨by omega, h.1.2, ?_⟩
  split at h2
  · omega
  · split at h2 <;> omega
theorem levN_ok {l : List N} (hf : fitAll l 0 = true) : ∀ i : Nat, i < l.length → (levN l i).Ok := by
  intro i
  induction i using Nat.strongRecOn with
  | ind i ih =>
  intro hi
  have hfi : fitN l[i] (i : Nat) = true := by have := fitAll_get hf hi; simpa using this
  have hb := fit_bd hfi
  rw [levN_eq hf hi]
  rcases fit_kids hfi with ⟨k0, ka, kb⟩ | ⟨k0, ⟨a, ka, ha⟩, kb⟩ | ⟨k0, ⟨a, ka, ha⟩, ⟨b, kb, hb'⟩⟩
  · rw [k0]
    exact .mk (by simp) (by omega) (by omega) (by simp)
  · have hta : l[i].a.toNat = a := by omega
    rw [k0, hta]
    exact .mk (by simp) (by omega) (by omega) (by simpa using ih a ha (by omega))
  · have hta : l[i].a.toNat = a := by omega
    have htb : l[i].b.toNat = b := by omega
    rw [k0, hta, htb]
    exact .mk (by simp) (by omega) (by omega) (by simpa using ⟨ih a ha (by omega), ih b hb' (by omega)⟩)
theorem getV_tu (l : List N) (i : Int) : ∃ x e, getV l i = .tu [.ag (cL x), .i .i64 e] ∧ x.Ok := by
  have h0 : (L.mk 0 0 []).Ok := .mk (by simp) (by omega) (by omega) (by simp)
  unfold getV
  split
  · rename_i h
    split
    · refine ⟨_, _, rfl, levN_ok (right_len h.1).2.1 _ (by omega)⟩
    · exact ⟨_, _, rfl, h0⟩
  · exact ⟨_, _, rfl, h0⟩
end Pi
