import Derived.Test.YtglibfclhecbkaaYA12Oct
set_option linter.unusedSimpArgs false
namespace Pi
open Pi.a12

/-- A list of bytes that is being made. -/
def Buf (m : Sto) (B : V) (l : List Nat) (x : Nat) : Prop := (B = .ns ∧ l = []) ∨ ∃ lo, B = .ms lo 0 l.length 1 ∧ m lo = some (.cells (l.map fun d => .i .u8 (d : Nat)) false) ∧ 16 < lo ∧ lo < x

theorem bor (d : Nat) (h : d < 128) : bin .or (.i .u8 d) (.i .u8 128) = some (.i .u8 ((d : Int) + 128)) := by
  have : ∀ d : Fin 128, Go.IntKind.u8.wrap ((BitVec.ofInt 8 ((d.val : Nat) : Int) ||| BitVec.ofInt 8 128).toNat : Nat) = (d.val : Int) + 128 := by decide
  show some (V.i .u8 (Go.IntKind.u8.wrap ((BitVec.ofInt 8 ((d : Nat) : Int) ||| BitVec.ofInt 8 128).toNat : Nat))) = _
  rw [this ⟨d, h⟩]

theorem y12 {q : LoopRec} (hE : q.e 4 = .p 8 0) (q1 : q.ps = [16, 17]) (q2 : q.asg = a12_1) (q3 : q.body = b12_3) (q4 : q.st = .ready) (q5 : q.pend = none) {m : Sto} {x : Nat} {B : V} {l : List Nat} (hm : m 16 = some (.loop q)) (h8 : m 8 = some (.cells [B] false)) (hB : Buf m B l x) (hx : 16 < x) (hl : l.length < 100) (d : Nat) (hd : d < 128) (on : Bool) {K : CR → Sto → Nat → Prop}
    (hK : ∀ m' x' B', x ≤ x' → m' 16 = some (.loop q) → m' 8 = some (.cells [B'] false) → Buf m' B' (l ++ [if on then d + 128 else d]) x' → m' 11 = m 11 → m' 15 = m 15 → K (.ret (.b true)) m' x') :
    wpCall ctx (.fn (.yield 16) [] []) [.i .u8 d, .b on] m x K := by
  have hq : ({ q with st := .ready, pend := none } : LoopRec) = q := by cases q; simp_all
  refine wpCall_yield (q := q) hm q4 (by rw [q1]; rfl) ?_
  have w2 : ∀ s Q, wp ctx q.asg s Q = wp ctx a12_1 s Q := by rw [q2]; intros; rfl
  have w3 : ∀ s Q, wp ctx q.body s Q = wp ctx b12_3 s Q := by rw [q3]; intros; rfl
  rw [w2]
  simp [a12_1, wp, wpSegs, wpOps, wanted, opD, Opd.ev, S.put, Env.set, Sto.app, hm, q4, w3]
  have o1 := bor d hd
  obtain ⟨z2, z3, z4, z5, z6, z0, z1⟩ : x ≠ 2 ∧ x ≠ 3 ∧ x ≠ 4 ∧ x ≠ 5 ∧ x ≠ 6 ∧ x ≠ 0 ∧ x ≠ 1 := by omega
  have big : ∀ j, j ≤ 16 → x ≠ j := fun j hj => by omega
  rcases hB with ⟨rfl, rfl⟩ | ⟨lo, rfl, h9, h10, h11⟩
  · cases on
    · simp [b12_3, k12_2, wp, wpSegs, wpOps, wanted, opD, Opd.ev, S.put, Env.set, Sto.app, Sto.set, hE, h8, getPart, bin, binI, fill, V.cells, V.stor, splice, zeros, apCells, slCells, lenV, BIG, Nat.add_assoc, z2, z3, z4, z5, z6, z0, z1]
      simp (disch := omega) only [if_neg]
      simp
      refine hK _ _ _ ?_ ?_ ?_ (.inr ⟨x + 6, rfl, ?_, ?_, ?_⟩) ?_ ?_
      all_goals first | omega | (simp [Sto.set, hq]; done) | (simp (disch := omega) [Sto.set, if_neg, hq, o1]; done) | (simp (disch := omega) [Sto.set, if_neg, hq]; omega) | trace_state
    · simp [b12_3, k12_2, wp, wpSegs, wpOps, wanted, opD, Opd.ev, S.put, Env.set, Sto.app, Sto.set, hE, h8, getPart, o1, fill, V.cells, V.stor, splice, zeros, apCells, slCells, lenV, BIG, Nat.add_assoc, z2, z3, z4, z5, z6, z0, z1]
      simp (disch := omega) only [if_neg]
      simp
      refine hK _ _ _ ?_ ?_ ?_ (.inr ⟨x + 9, rfl, ?_, ?_, ?_⟩) ?_ ?_
      all_goals first | omega | (simp [Sto.set, hq]; done) | (simp (disch := omega) [Sto.set, if_neg, hq, o1]; done) | (simp (disch := omega) [Sto.set, if_neg, hq]; omega) | trace_state
  · have y1 : ∀ j, lo ≠ x + j := fun j => by omega
    have y2 : ¬ lo = 8 := by omega
    have y3 : ¬ lo = 16 := by omega
    have y5 : ¬ 8 = lo := by omega
    have y6 : ¬ 16 = lo := by omega
    have y7 : ¬ 11 = lo := by omega
    have y8 : ¬ 15 = lo := by omega
    have y4 : l.length ≤ 2147483647 := by omega
    have y9 : List.take l.length (List.map (fun d => V.i Go.IntKind.u8 ((d : Nat) : Int)) l) = List.map (fun d => V.i Go.IntKind.u8 ((d : Nat) : Int)) l := by rw [List.take_of_length_le (by simp)]
    cases on
    · simp [b12_3, k12_2, wp, wpSegs, wpOps, wanted, opD, Opd.ev, S.put, Env.set, Sto.app, Sto.set, hE, h8, getPart, bin, binI, fill, V.cells, V.stor, splice, zeros, apCells, slCells, lenV, BIG, Nat.add_assoc, z2, z3, z4, z5, z6, z0, z1, y1, y2, y3, h9, y4, y5, y6, y9]
      simp (disch := omega) only [if_neg]
      simp
      refine hK _ _ _ ?_ ?_ ?_ (.inr ⟨x + 6, by simp; rfl, ?_, ?_, ?_⟩) ?_ ?_
      all_goals first | omega | (simp [Sto.set, hq]; done) | (simp (disch := omega) [Sto.set, if_neg, hq]; done) | trace_state
    · simp [b12_3, k12_2, wp, wpSegs, wpOps, wanted, opD, Opd.ev, S.put, Env.set, Sto.app, Sto.set, hE, h8, getPart, o1, fill, V.cells, V.stor, splice, zeros, apCells, slCells, lenV, BIG, Nat.add_assoc, z2, z3, z4, z5, z6, z0, z1, y1, y2, y3, h9, y4, y5, y6, y9]
      simp (disch := omega) only [if_neg]
      simp
      refine hK _ _ _ ?_ ?_ ?_ (.inr ⟨x + 9, by simp; rfl, ?_, ?_, ?_⟩) ?_ ?_
      all_goals first | omega | (simp [Sto.set, hq]; done) | (simp (disch := omega) [Sto.set, if_neg, hq]; done) | trace_state
end Pi
