import Derived.Test.YtglibfclhecbkaaYA12Put2
set_option linter.unusedSimpArgs false
namespace Pi
open Pi.a12
theorem bytes_map : ∀ l : List Nat, bytesOf (l.map fun d => V.i .u8 ((d : Nat) : Int)) = some (l.map UInt8.ofNat)
  | [] => rfl
  | d :: l => by simp [bytesOf, bytes_map l]
theorem f12 (n : Int) : Ans ctx 12 [.i .i64 n] (putS n) := by
  refine ans_fin rfl ?_
  by_cases h0 : n < 0
  · simp [c12, wp, wpSegs, wpOps, wanted, opD, Opd.ev, S.put, Env.set, envOf, bin, binI, Sto.app, h0, Done, DoneD, Frz, result, resL, resV, putS, freeze, frzW, frzL]
  · by_cases h1 : n > 1099511627776
    · have h1' : 1099511627776 < n := h1
      simp [c12, wp, wpSegs, wpOps, wanted, opD, Opd.ev, S.put, Env.set, envOf, bin, binI, Sto.app, h0, h1', Done, DoneD, Frz, result, resL, resV, putS, freeze, frzW, frzL]
    · have h1' : ¬ 1099511627776 < n := h1
      obtain ⟨k, rfl⟩ : ∃ k : Nat, n = k := ⟨n.toNat, by omega⟩
      have hp : putS k = .tu [.s (bs (digs k)), .i .i64 0] := by simp only [putS]; rw [if_neg (by omega)]; rfl
      rw [hp]
      have hlen : (digs k).length ≤ 6 := digs_len 5 (by omega)
      have w1 : Go.IntKind.u64.wrap (k : Int) = k := u64w (by omega) (by omega)
      simp [c12, wp, wpSegs, wpOps, wanted, opD, Opd.ev, S.put, Env.set, envOf, bin, binI, Sto.app, h0, h1']
      simp [k12_6, wp, wpSegs, wpOps, wanted, opD, Opd.ev, S.put, Env.set, envOf, bin, binI, Sto.app, w1]
      refine wpCall_op rfl (Or.inl rfl) rfl ?_
      simp [c30, wp, wpSegs, wpOps, wanted, opD, Opd.ev, S.put, Env.set, envOf, bin, binI, Sto.app, Done, DoneD, result, resL, resV, V.cells, V.stor, k12_4]
      refine rf_ok (by rfl) ?_
      simp [Opd.ev, Env.set]
      refine wpCall_op rfl (Or.inr (by simp [freezeL, frzL, frzW])) rfl ?_
      simp only [c42, wp, List.nil_append, List.cons_append]
      refine loop_use (l42 ?_ rfl rfl rfl rfl rfl k (by omega) ⟨rfl, rfl, by simp [Sto.set], by simp [Sto.set]; try rfl, by simp [Sto.set], ⟨.ns, by simp [Sto.set], .inl ⟨rfl, rfl⟩⟩, by simp, by omega, rfl, rfl, rfl, rfl⟩) ?_
      · simp [Env.set]
      rintro _ ⟨e, m, x, ds, rv, rd⟩ ⟨rfl, n, l, hn, hm⟩
      obtain ⟨g0, g1, g2, g3, g4, ⟨B, g5, g6⟩, g7, g8, g9, g10, g11, g12⟩ := hm
      simp only at g0 g1 g2 g3 g4 g5 g6 g7 g10 g11 g12
      subst g10 g11 g12
      have hd : digs n = [n] := by rw [digs, dif_pos hn]
      rw [hd] at g9
      have w2 : Go.IntKind.u8.wrap (n : Int) = n := u8w (by omega) (by omega)
      have hol : l.length < 100 := by
        have := congrArg List.length g9
        simp at this
        omega
      simp only [k42_6, wp, wpSegs, wpOps, wanted, opD, Opd.ev, S.put, Env.set, Sto.app, g0, g1, g2, getPart, w2, List.getElem?_cons_zero, Option.map_some, reduceIte, List.foldl_nil, Nat.reduceEqDiff, Bool.false_eq_true, List.map_cons, List.map_nil]
      refine y12 (by simp [Env.set]) rfl rfl rfl rfl rfl g3 g5 (g6.up (by omega)) (by omega) hol n hn false ?_
      intro m' x' B' k1 k2 k3 k4 k5 k6
      simp only [wpOps, wpSegs, Done, DoneD, result, resL, Option.map_some]
      refine ⟨.inr trivial, _, rfl, _, k2, by simp, ?_⟩
      simp only [wp]
      have g9' : l ++ [if false = true then n + 128 else n] = digs k := by simpa using g9
      rw [g9'] at k4
      have hne : digs k ≠ [] := by rw [← g9]; simp
      rcases k4 with ⟨_, h⟩ | ⟨lo, rfl, z1, z2, z3⟩
      · exact absurd h hne
      have z4 : ¬ lo = 16 := by omega
      have z5 : ¬ lo = 15 := by omega
      have k6' : m' 15 = some .dfr := k6.trans g4
      have hb := bytes_map (digs k)
      have ht : List.take (digs k).length (List.map (fun d => V.i Go.IntKind.u8 ((d : Nat) : Int)) (digs k)) = List.map (fun d => V.i Go.IntKind.u8 ((d : Nat) : Int)) (digs k) := by rw [List.take_of_length_le (by simp)]
      simp [k12_5, wp, wpSegs, wpOps, wanted, opD, Opd.ev, S.put, Env.set, Sto.app, Sto.set, getPart, k3, slCells, z1, z4, ht, hb, Done, DoneD, k6', result, resL, resV, Frz, freeze, frzW, frzL]
      rfl

end Pi
