/- Laws of layer 4: arenas by numbers. -/
import Derived.Test.YtdeichdplcafcaaC04l
set_option linter.unusedSimpArgs false
set_option linter.unusedVariables false
namespace Pi
/-- What Put makes of an arena. -/
def putA (l : List N) (k : L) : List N := if rightN l = true ∧ RightS k 5 10 = true ∧ (putN k l).1.length ≤ 1000 then (putN k l).1 else l
theorem putV_A (l : List N) (k : L) : ∃ a e, putV l k = .tu [.ag [sV cN (putA l k)], .i .i64 a, .i .i64 e] := by
  unfold putV putA
  split
  · rename_i h
    split
    · rename_i h2
      rw [if_pos ⟨h.1, h.2, h2⟩]
      exact ⟨_, _, rfl⟩
    · rename_i h2
      rw [if_neg (fun g => h2 g.2.2)]
      exact ⟨_, _, rfl⟩
  · rename_i h
    rw [if_neg (fun g => h ⟨g.1, g.2.1⟩)]
    exact ⟨_, _, rfl⟩
theorem putA_len {l : List N} {k : L} (h : l.length ≤ 1000) : (putA l k).length ≤ 1000 := by
  unfold putA
  split
  · rename_i g; exact g.2.2
  · exact h
/-- The arena of some lists of numbers. -/
def arenaT (ls : List (List Nat)) : Nat → List N
  | 0 => []
  | i + 1 => putA (arenaT ls i) (madeS (ls.getD i []) 5 10)
theorem arenaT_len (ls : List (List Nat)) : ∀ i, (arenaT ls i).length ≤ 1000
  | 0 => by simp [arenaT]
  | i + 1 => putA_len (arenaT_len ls i)
def arenaS (ls : List (List Nat)) : List N := arenaT ls (min ls.length 8)
theorem arenaS_len (ls : List (List Nat)) : (arenaS ls).length ≤ 1000 := arenaT_len ls _
end Pi
