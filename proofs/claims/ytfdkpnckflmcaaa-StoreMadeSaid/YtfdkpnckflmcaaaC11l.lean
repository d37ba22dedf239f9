/- Laws of layer 11: stores by numbers are as the document says. -/
import Derived.Test.YtfdkpnckflmcaaaC11k
set_option linter.unusedSimpArgs false
set_option linter.unusedVariables false
namespace Pi
set_option maxHeartbeats 1000000 in
theorem law11_StoreMade.a (n : Nat) (hn : n < 256) (l k b : List Nat) (hb : Byt l) (hl : l.length ≤ 9223372036854775807) (hbk : Byt k) (hlk : k.length ≤ 9223372036854775807) (hbb : Byt b) (hlb : b.length ≤ 9223372036854775807) :
    Ans ctx law11_StoreMade.n [.i .u8 n, sV cU l, sV cU k, sV cU b] (.b true) := by
  refine ans law11_StoreMade.f ?_
  have hM := law11_Made.a n hn l hb hl
  have hC := law08_Made.a n hn k hbk hlk
  have hA := law11_atoms.a n hn b hbb hlb
  have hg := (madeSt_Gd n l).few
  have hcl := made_len n k
  have hc6 := made_six n k
  have hal := atomsB_len n b
  generalize madeC n k = c at *
  generalize madeSt n l = s at *
  generalize atomsB n b = L at *
  have hc6' : ∀ d ∈ c.take 15, d.frm.length ≤ 9223372036854775807 := fun d hd => hc6 d (List.mem_of_mem_take hd)
  by_cases h1 : 15 < c.length
  · cases L with
    | nil =>
      have hT : Ans ctx law11_told.n [.ag (cS s), sV cC (c.take 15), .ag [.i .i64 0, .i .i64 0], .sl [] 0] (.b true) := law11_told.a s (c.take 15) ⟨0, 0⟩ [] hg (by rw [List.length_take]; omega) hc6' (by simp)
      simp +contextual (disch := omega) [Nat.add_assoc, Int.add_assoc, if_pos, if_neg, -Int.not_lt, -Int.not_le, -Nat.not_lt, -Nat.not_le, -List.length_flatMap, law11_StoreMade.c, ansK hM, ansK hC, ansK hA, h1, ansK hT]
    | cons a L =>
      have hT := law11_told.a s (c.take 15) a L hg (by rw [List.length_take]; omega) hc6' (by simp at hal; omega)
      simp +contextual (disch := omega) [Nat.add_assoc, Int.add_assoc, if_pos, if_neg, -Int.not_lt, -Int.not_le, -Nat.not_lt, -Nat.not_le, -List.length_flatMap, law11_StoreMade.c, ansK hM, ansK hC, ansK hA, h1, ansK hT]
  · cases L with
    | nil =>
      have hT : Ans ctx law11_told.n [.ag (cS s), sV cC c, .ag [.i .i64 0, .i .i64 0], .sl [] 0] (.b true) := law11_told.a s c ⟨0, 0⟩ [] hg (by omega) hc6 (by simp)
      simp +contextual (disch := omega) [Nat.add_assoc, Int.add_assoc, if_pos, if_neg, -Int.not_lt, -Int.not_le, -Nat.not_lt, -Nat.not_le, -List.length_flatMap, law11_StoreMade.c, ansK hM, ansK hC, ansK hA, h1, ansK hT]
    | cons a L =>
      have hT := law11_told.a s c a L hg (by omega) hc6 (by simp at hal; omega)
      simp +contextual (disch := omega) [Nat.add_assoc, Int.add_assoc, if_pos, if_neg, -Int.not_lt, -Int.not_le, -Nat.not_lt, -Nat.not_le, -List.length_flatMap, law11_StoreMade.c, ansK hM, ansK hC, ansK hA, h1, ansK hT]
end Pi
