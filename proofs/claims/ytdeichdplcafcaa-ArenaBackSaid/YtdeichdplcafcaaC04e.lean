/- Contracts: arenas (layer 4): sizes as the document has them. -/
import Derived.Test.YtdeichdplcafcaaC04d
set_option linter.unusedSimpArgs false
set_option linter.unusedVariables false
namespace Pi
theorem Eg.apy {α : Type} {f : α → List V} {k : Nat} [h : Cel f k] {m m' : Sto} {B : V} {l : List α} (l' : List α) {lo x slot n : Nat} {K : V → Ws → Prop} {xs : List V} (hB : Eg m B f k l lo x) (hm : ∀ j, j ∈ refOf B → m' j = m j) (hx : x ≤ slot) (hxs : xs = l'.flatMap f) (hn : n = l'.length) (h0 : l'.length ≠ 0) (hl : l.length + l'.length ≤ 2147483648)
    (hK : ∀ ws m2, m'.app ws = m2 → m2 slot = some (.cells ((l ++ l').flatMap f) false) → (∀ j, j ∉ refOf B → j ≠ slot → m2 j = m' j) → (∀ j, j ∈ refOf B → j ≠ slot → m2 j = none) → K (.ms slot 0 (l.length + l'.length) k) ws) : opK (apV m' k B xs n slot) K := by
  subst hn hxs
  rcases hB with ⟨rfl, rfl⟩ | ⟨a, rfl, h1, h2, h3⟩
  · have hB : l'.length ≤ BIG := by unfold BIG; simp at hl; omega
    rw [apV_ns, if_neg h0, if_pos hB]
    have e : .ms slot 0 l'.length k = V.ms slot 0 (([] : List α).length + l'.length) k := by simp
    rw [e]
    refine hK _ _ rfl (by rw [sapp_cons, sapp_nil, Sto.seq]; rfl) (fun j _ hj => ?_) (fun j h => by simp [refOf] at h)
    rw [sapp_cons, sapp_nil, Sto.sne _ _ _ _ hj]
  · have hB : l.length + l'.length ≤ BIG := by unfold BIG; omega
    have ha : m' a = some (.cells (l.flatMap f) false) := by rw [hm a (by simp [refOf]), h1]
    have hf := flat_ln (f := f) (k := k) l
    rw [apV_ms, if_neg h0, ha, apO_cells, if_pos ⟨rfl, by rw [hf]; exact Nat.le_refl _, hB⟩, List.take_of_length_le (by rw [hf]; exact Nat.le_refl _)]
    refine hK _ _ rfl (by rw [sapp_cons, sapp_cons, sapp_nil, Sto.seq, List.flatMap_append]) (fun j q1 q2 => ?_) (fun j q1 q2 => ?_)
    · rw [sapp_cons, sapp_cons, sapp_nil, Sto.sne _ _ _ _ q2, Sto.sne _ _ _ _ (fun h => q1 (by simp [refOf, h]))]
    · have e : j = a := by simpa [refOf] using q1
      subst e
      rw [sapp_cons, sapp_cons, sapp_nil, Sto.sne _ _ _ _ q2, Sto.seq]
theorem Eg.mv {α : Type} {f : α → List V} {k : Nat} {m m' : Sto} {B : V} {l : List α} {lo x x' : Nat} (h : Eg m B f k l lo x) (hx : x ≤ x') (hm : ∀ j, j ∈ refOf B → m' j = m j) : Eg m' B f k l lo x' := by
  rcases h with h | ⟨a, rfl, h1, h2, h3⟩
  · exact .inl h
  · exact .inr ⟨a, rfl, by rw [hm a (by simp [refOf]), h1], h2, by omega⟩
theorem Eg.ref {α : Type} {f : α → List V} {k : Nat} {m : Sto} {B : V} {l : List α} {lo x j : Nat} (h : Eg m B f k l lo x) (hj : j ∈ refOf B) : lo ≤ j ∧ j < x := by
  rcases h with ⟨rfl, _⟩ | ⟨a, rfl, _, h2, h3⟩
  · simp [refOf] at hj
  · simp [refOf] at hj; omega
end Pi

