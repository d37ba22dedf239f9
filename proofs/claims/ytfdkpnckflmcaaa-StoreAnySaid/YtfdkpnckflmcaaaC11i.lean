/- Laws of layer 11: any store. -/
import Derived.Test.YtfdkpnckflmcaaaC11h
set_option linter.unusedSimpArgs false
set_option linter.unusedVariables false
namespace Pi
/-- Are there few clauses, whose numbers are not great? -/
def fewR : List C → Nat → Bool
  | [], n => decide (n ≤ 150)
  | c :: l, n => if 150 < n then false else if 20 < c.to.off ∧ c.to.off ≤ 1000 then false else fewR l (n + 1 + c.frm.length)
theorem fewR_le : ∀ (l : List C) (n : Nat), fewR l n = true → n + l.length ≤ 150 ∧ ∀ c ∈ l, c.frm.length ≤ 150
  | [], n, h => by simpa [fewR] using h
  | c :: l, n, h => by
    unfold fewR at h
    split at h
    · cases h
    · split at h
      · cases h
      · obtain ⟨h1, h2⟩ := fewR_le l _ h
        refine ⟨by rw [List.length_cons]; omega, fun d hd => ?_⟩
        rcases List.mem_cons.1 hd with rfl | hd
        · omega
        · exact h2 d hd
theorem fewR_big (l : List C) (n : Nat) (h : 150 < n) : fewR l n = false := by
  cases l with
  | nil => simp [fewR]; omega
  | cons c l => simp [fewR, h]
theorem law11_few.a (l : List C) (hl : l.length ≤ 9223372036854775807) (hf : ∀ c ∈ l, c.frm.length ≤ 140737488351232) : Ans ctx law11_few.n [sV cC l] (.b (fewR l 0)) := by
  refine ans law11_few.f ?_
  obtain ⟨r, hr⟩ : ∃ r, r = fewR l 0 := ⟨_, rfl⟩
  rw [← hr]
  simp +contextual (disch := omega) [Nat.add_assoc, Int.add_assoc, if_pos, if_neg, -Int.not_lt, -Int.not_le, -Nat.not_lt, -Nat.not_le, -List.length_flatMap, law11_few.c]
  refine for_w (fun i e m x => e 0 = sV cC l ∧ e 4 = .i .i64 i ∧ ∃ n : Nat, e 3 = .i .i64 n ∧ n ≤ 140737488351232 + 200 ∧ r = fewR (l.drop i) n) l.length ?_ ?_ ?_
  · simp +contextual (disch := omega) [Nat.add_assoc, Int.add_assoc, if_pos, if_neg, -Int.not_lt, -Int.not_le, -Nat.not_lt, -Nat.not_le, -List.length_flatMap, hr]
    exact ⟨0, by simp⟩
  · rintro i e m x hi ⟨g0, g4, n, g3, hn, hd⟩
    have hfi := hf _ (List.getElem_mem hi)
    rw [List.drop_eq_getElem_cons hi] at hd
    by_cases h1 : n ≤ 150
    · by_cases h2 : 20 < l[i].to.off
      · by_cases h3 : l[i].to.off ≤ 1000
        · have hd' : r = false := by rw [hd]; unfold fewR; rw [if_neg (by omega), if_pos ⟨h2, h3⟩]
          simp +contextual (disch := omega) [Nat.add_assoc, Int.add_assoc, if_pos, if_neg, -Int.not_lt, -Int.not_le, -Nat.not_lt, -Nat.not_le, -List.length_flatMap, law11_few.b1, g0, g4, g3, hi, hd']
        · have hd' : r = fewR (l.drop (i + 1)) (n + 1 + l[i].frm.length) := by rw [hd]; conv => lhs; unfold fewR; rw [if_neg (by omega), if_neg (by omega)]
          simp +contextual (disch := omega) [Nat.add_assoc, Int.add_assoc, if_pos, if_neg, -Int.not_lt, -Int.not_le, -Nat.not_lt, -Nat.not_le, -List.length_flatMap, law11_few.b1, g0, g4, g3, hi]
          exact ⟨n + 1 + l[i].frm.length, by simp; omega, by omega, hd'⟩
      · have hd' : r = fewR (l.drop (i + 1)) (n + 1 + l[i].frm.length) := by rw [hd]; conv => lhs; unfold fewR; rw [if_neg (by omega), if_neg (by omega)]
        simp +contextual (disch := omega) [Nat.add_assoc, Int.add_assoc, if_pos, if_neg, -Int.not_lt, -Int.not_le, -Nat.not_lt, -Nat.not_le, -List.length_flatMap, law11_few.b1, g0, g4, g3, hi]
        exact ⟨n + 1 + l[i].frm.length, by simp; omega, by omega, hd'⟩
    · have hd' : r = false := by rw [hd]; exact fewR_big _ _ (by omega)
      simp +contextual (disch := omega) [Nat.add_assoc, Int.add_assoc, if_pos, if_neg, -Int.not_lt, -Int.not_le, -Nat.not_lt, -Nat.not_le, -List.length_flatMap, law11_few.b1, g0, g4, g3, hi, hd']
      omega
  · rintro e m x ⟨g0, g4, n, g3, hn, hd⟩
    rw [List.drop_of_length_le (by omega)] at hd
    have hd' : r = decide (n ≤ 150) := hd
    simp +contextual (disch := omega) [Nat.add_assoc, Int.add_assoc, if_pos, if_neg, -Int.not_lt, -Int.not_le, -Nat.not_lt, -Nat.not_le, -List.length_flatMap, law11_few.b1, g0, g4, g3, hd']
    omega
set_option maxRecDepth 20000 in
set_option maxHeartbeats 1000000 in
theorem law11_StoreAny.a (s : St) (l : List C) (a : A) (b : List A) (vars : Int) (hs : s.Ok) (hl : l.length ≤ 9223372036854775807) (ok : ∀ c ∈ l, c.Ok) (hb : b.length ≤ 140737488351232) : Ans ctx law11_StoreAny.n [.ag (cS s), sV cC l, .ag (cA a), sV cA b, .i .i64 vars] (.b true) := by
  obtain ⟨vs, hvs⟩ : ∃ vs, vs = [V.ag (cS s), sV cC l, V.ag (cA a), sV cA b, V.i .i64 vars] := ⟨_, rfl⟩
  rw [← hvs]
  refine ans law11_StoreAny.f ?_
  obtain ⟨t, n, e1, ht1, ht2⟩ := newV_tu vars
  have hN1 := store_New.a vars
  have hN2 := ref11_New.a vars
  rw [e1] at hN1 hN2
  have hSm : Ans ctx ref11_Same.n [.ag (cS t), .ag (cS t)] (.b true) := St.Few.same ⟨⟨by rw [ht1]; simp, by rw [ht1]; simp⟩, by rw [ht1]; simp, by omega, by rw [ht1]; simp⟩
  have hF1 := law11_few.a s.cl hs.2.1 (fun c hc => (hs.2.2.1 c hc).1)
  have hF2 := law11_few.a l hl (fun c hc => (ok c hc).1)
  have hF3 : Ans ctx law11_few.n [.sl (sV cA b :: cA a) 1] (.b (fewR [⟨b, a⟩] 0)) := law11_few.a [⟨b, a⟩] (by simp) (by simp; exact hb)
  by_cases q1 : fewR s.cl 0 = true
  · by_cases q2 : fewR l 0 = true
    · by_cases q3 : fewR [⟨b, a⟩] 0 = true
      · by_cases q4 : 100 < s.md.length
        · simp +contextual (disch := omega) [Nat.add_assoc, Int.add_assoc, if_pos, if_neg, -Int.not_lt, -Int.not_le, -Nat.not_lt, -Nat.not_le, -List.length_flatMap, hvs, law11_StoreAny.c, ansK hN1, ansK hN2, ansK hSm, ansK hF1, ansK hF2, ansK hF3, q1, q2, q3]
        · obtain ⟨p1, p2⟩ := fewR_le _ _ q1
          obtain ⟨p3, p4⟩ := fewR_le _ _ q2
          obtain ⟨_, p5⟩ := fewR_le _ _ q3
          have p5 := p5 ⟨b, a⟩ (by simp)
          simp only at p5
          have hT := law11_told.a s l a b ⟨⟨by omega, fun c hc => by have := p2 c hc; omega⟩, by omega, by omega, fun c hc => by have := p2 c hc; omega⟩ (by omega) (fun c hc => by have := p4 c hc; omega) (by omega)
          simp +contextual (disch := omega) [Nat.add_assoc, Int.add_assoc, if_pos, if_neg, -Int.not_lt, -Int.not_le, -Nat.not_lt, -Nat.not_le, -List.length_flatMap, hvs, law11_StoreAny.c, ansK hN1, ansK hN2, ansK hSm, ansK hF1, ansK hF2, ansK hF3, q1, q2, q3]
          refine for_w (fun i e m x => e 1 = sV cC l ∧ e 3 = sV cA b ∧ e 5 = .p 0 0 ∧ e 7 = .p 1 0 ∧ m 0 = some (.cells (cS s) false) ∧ m 1 = some (.cells (cA a) false) ∧ e 15 = .i .i64 i) b.length ?_ ?_ ?_
          · simp +contextual (disch := omega) [Nat.add_assoc, Int.add_assoc, if_pos, if_neg, -Int.not_lt, -Int.not_le, -Nat.not_lt, -Nat.not_le, -List.length_flatMap]
          · rintro i e m x hi ⟨g1, g3, g5, g7, y0, y1, g15⟩
            by_cases h1 : 20 < b[i].off
            · by_cases h2 : b[i].off < 1000
              · simp +contextual (disch := omega) [Nat.add_assoc, Int.add_assoc, if_pos, if_neg, -Int.not_lt, -Int.not_le, -Nat.not_lt, -Nat.not_le, -List.length_flatMap, law11_StoreAny.b1, g1, g3, g5, g7, y0, y1, g15, hi]
              · simp +contextual (disch := omega) [Nat.add_assoc, Int.add_assoc, if_pos, if_neg, -Int.not_lt, -Int.not_le, -Nat.not_lt, -Nat.not_le, -List.length_flatMap, law11_StoreAny.b1, g1, g3, g5, g7, y0, y1, g15, hi]
            · simp +contextual (disch := omega) [Nat.add_assoc, Int.add_assoc, if_pos, if_neg, -Int.not_lt, -Int.not_le, -Nat.not_lt, -Nat.not_le, -List.length_flatMap, law11_StoreAny.b1, g1, g3, g5, g7, y0, y1, g15, hi]
          · rintro e m x ⟨g1, g3, g5, g7, y0, y1, g15⟩
            simp +contextual (disch := omega) [Nat.add_assoc, Int.add_assoc, if_pos, if_neg, -Int.not_lt, -Int.not_le, -Nat.not_lt, -Nat.not_le, -List.length_flatMap, law11_StoreAny.b1, g1, g3, g5, g7, y0, y1, g15, ansK hT]
      · simp +contextual (disch := omega) [Nat.add_assoc, Int.add_assoc, if_pos, if_neg, -Int.not_lt, -Int.not_le, -Nat.not_lt, -Nat.not_le, -List.length_flatMap, hvs, law11_StoreAny.c, ansK hN1, ansK hN2, ansK hSm, ansK hF1, ansK hF2, ansK hF3, q1, q2, q3]
    · simp +contextual (disch := omega) [Nat.add_assoc, Int.add_assoc, if_pos, if_neg, -Int.not_lt, -Int.not_le, -Nat.not_lt, -Nat.not_le, -List.length_flatMap, hvs, law11_StoreAny.c, ansK hN1, ansK hN2, ansK hSm, ansK hF1, ansK hF2, ansK hF3, q1, q2]
  · simp +contextual (disch := omega) [Nat.add_assoc, Int.add_assoc, if_pos, if_neg, -Int.not_lt, -Int.not_le, -Nat.not_lt, -Nat.not_le, -List.length_flatMap, hvs, law11_StoreAny.c, ansK hN1, ansK hN2, ansK hSm, ansK hF1, ansK hF2, ansK hF3, q1]
end Pi
