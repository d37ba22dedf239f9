import Derived.Test.YtglibfclhecbkaaYA12Code
set_option linter.unusedSimpArgs false
namespace Pi
open Pi.a12
def digs (n : Nat) : List Nat := if h : n < 128 then [n] else (n % 128 + 128) :: digs (n / 128)
termination_by n
decreasing_by omega

theorem i64w {a : Int} (h : -9223372036854775808 ≤ a) (h' : a < 9223372036854775808) : Go.IntKind.i64.wrap a = a := by
  simp only [Go.IntKind.wrap, Go.IntKind.signed, Go.IntKind.bits]
  simp
  omega
theorem u8w {a : Int} (h : 0 ≤ a) (h' : a < 256) : Go.IntKind.u8.wrap a = a := by
  simp only [Go.IntKind.wrap, Go.IntKind.signed, Go.IntKind.bits]
  simp
  omega
theorem u64w {a : Int} (h : 0 ≤ a) (h' : a < 18446744073709551616) : Go.IntKind.u64.wrap a = a := by
  simp only [Go.IntKind.wrap, Go.IntKind.signed, Go.IntKind.bits]
  simp
  omega
theorem bs_size (l : List Nat) : (bs l).size = l.length := by simp [bs, ByteArray.size]
theorem bs_app (a b : List Nat) : bs a ++ bs b = bs (a ++ b) := by
  apply ByteArray.ext
  simp [bs, ByteArray.data_append]
theorem bs_one (n : Nat) : (⟨#[UInt8.ofNat n]⟩ : ByteArray) = bs [n] := rfl
theorem digs_len {n : Nat} : ∀ k, n < 128 ^ (k + 1) → (digs n).length ≤ k + 1 := by
  intro k
  induction k generalizing n with
  | zero => intro h; unfold digs; simp at h; simp [h]
  | succ k ih =>
    intro h
    unfold digs
    split
    · simp
    · simp only [List.length_cons]
      have := ih (n := n / 128) (by rw [Nat.div_lt_iff_lt_mul (by omega)]; rw [← Nat.pow_succ]; exact h)
      omega

theorem t13loop (n0 : Nat) (hn0 : n0 ≤ 1099511627776) {e : Env} {m : Sto} {x : Nat} (he0 : e 0 = .i .i64 n0) (he4 : e 4 = .s (bs [])) :
    ∃ xx s', Runs ctx (.loop b13_2) ⟨e, m, x, [], none, none⟩ xx s' ∧ xx = .exit 0 ∧ s'.ds = [] ∧ s'.rv = none ∧ s'.rd = none ∧ ∃ (n : Nat) (o : List Nat), s'.e 0 = .i .i64 n ∧ s'.e 4 = .s (bs o) ∧ n < 128 ∧ o ++ [n] = digs n0 ∧ s'.e 3 = e 3 := by
  have hlen : (digs n0).length ≤ 6 := digs_len 5 (by omega)
  refine loop_ok (Inv := fun k s => s.ds = [] ∧ s.rv = none ∧ s.rd = none ∧ s.e 3 = e 3 ∧ ∃ (n : Nat) (o : List Nat), k = n ∧ s.e 0 = .i .i64 n ∧ s.e 4 = .s (bs o) ∧ n ≤ 1099511627776 ∧ o ++ digs n = digs n0)
    (Q := fun xx s' => xx = .exit 0 ∧ s'.ds = [] ∧ s'.rv = none ∧ s'.rd = none ∧ ∃ (n : Nat) (o : List Nat), s'.e 0 = .i .i64 n ∧ s'.e 4 = .s (bs o) ∧ n < 128 ∧ o ++ [n] = digs n0 ∧ s'.e 3 = e 3) ?_ (k := n0) ?_
  · rintro n ⟨e', m', x', ds, rv, rd⟩ ⟨h1, h2, h3, h33, n', o, hk, h4, h5, h6, h7⟩
    subst hk
    simp only at h1 h2 h3 h4 h5 h33
    subst h1 h2 h3
    by_cases hn : (128 : Int) ≤ n
    · have hd : digs n = (n % 128 + 128) :: digs (n / 128) := by rw [digs, dif_neg (by omega)]
      have hol : o.length ≤ 5 := by
        have := congrArg List.length h7
        rw [hd] at this
        simp at this
        omega
      have hn' : 128 ≤ n := by omega
      have w3 : ((n : Int) % 128 + 128).toNat = n % 128 + 128 := by omega
      have w4 : (128 + (n : Int) % 128).toNat = n % 128 + 128 := by omega
      have hs1 : (⟨#[UInt8.ofNat (n % 128 + 128)]⟩ : ByteArray) = bs [n % 128 + 128] := rfl
      have hsz : o.length + 1 ≤ BIG := by unfold BIG; omega
      simp (disch := omega) [-UInt8.ofNat_add, b13_2, k13_1, wp, wpSegs, wpOps, wanted, opD, Opd.ev, S.put, Env.set, bin, binI, Sto.app, Sto.set, hn, hn', h4, h5, h33, fill, V.cells, V.stor, splice, zeros, slCells, bytesOf, i64w, u8w, w3, w4, hs1, bs_app, bs_size, hsz, Int.tmod_eq_emod_of_nonneg, Int.tdiv_eq_ediv_of_nonneg]
      refine ⟨n / 128, by omega, by omega, _, rfl, by omega, ?_⟩
      rw [← h7, hd]
      simp
    · have hn' : ¬ 128 ≤ n := by omega
      have hd : digs n = [n] := by rw [digs, dif_pos (by omega)]
      simp (disch := omega) [-UInt8.ofNat_add, b13_2, k13_1, wp, wpSegs, wpOps, wanted, opD, Opd.ev, S.put, Env.set, bin, binI, Sto.app, Sto.set, hn, hn', h4, h5, h33]
      try exact ⟨n, rfl, o, rfl, by omega, by rw [← h7, hd]⟩
  · exact ⟨rfl, rfl, rfl, rfl, n0, [], rfl, he0, he4, hn0, rfl⟩

def putS (n : Int) : V := if n < 0 ∨ n > 1099511627776 then .tu [.s (bs []), .i .i64 1] else .tu [.s (bs (digs n.toNat)), .i .i64 0]

theorem f13 (n : Int) : Ans ctx 13 [.i .i64 n] (putS n) := by
  refine ans_fin rfl ?_
  by_cases h0 : n < 0
  · simp [c13, wp, wpSegs, wpOps, wanted, opD, Opd.ev, S.put, Env.set, envOf, bin, binI, Sto.app, h0, Done, DoneD, Frz, result, resL, resV, putS, freeze, frzW, frzL]
  · by_cases h1 : n > 1099511627776
    · have h1' : 1099511627776 < n := h1
      simp [c13, wp, wpSegs, wpOps, wanted, opD, Opd.ev, S.put, Env.set, envOf, bin, binI, Sto.app, h0, h1', Done, DoneD, Frz, result, resL, resV, putS, freeze, frzW, frzL]
    · have h1' : ¬ 1099511627776 < n := h1
      obtain ⟨k, rfl⟩ : ∃ k : Nat, n = k := ⟨n.toNat, by omega⟩
      have hp : putS k = .tu [.s (bs (digs k)), .i .i64 0] := by simp only [putS]; rw [if_neg (by omega)]; rfl
      rw [hp]
      have hlen : (digs k).length ≤ 6 := digs_len 5 (by omega)
      simp [c13, wp, wpSegs, wpOps, wanted, opD, Opd.ev, S.put, Env.set, envOf, bin, binI, Sto.app, h0, h1']
      simp [k13_4, wp, wpSegs, wpOps, wanted, opD, Opd.ev, S.put, Env.set, envOf, bin, binI, Sto.app]
      refine loop_use (t13loop k (by omega) (by simp [Env.set, envOf]) (by simp [Env.set])) ?_
      rintro _ ⟨e', m', x', ds, rv, rd⟩ ⟨rfl, q2, q3, q4, n', o, q5, q6, q7, q8, q9⟩
      simp only at q2 q3 q4 q5 q6 q9
      subst q2 q3 q4
      have w4 : (n' : Int).toNat = n' := by omega
      have hs1 : (⟨#[UInt8.ofNat n']⟩ : ByteArray) = bs [n'] := rfl
      have hol : o.length + 1 ≤ BIG := by
        have := congrArg List.length q8
        simp at this
        unfold BIG
        omega
      simp (disch := omega) [k13_3, wp, wpSegs, wpOps, wanted, opD, Opd.ev, S.put, Env.set, bin, binI, Sto.app, Sto.set, q5, q6, fill, V.cells, V.stor, splice, zeros, slCells, bytesOf, u8w, w4, hs1, bs_app, bs_size, hol, Done, DoneD, Frz, result, resL, resV, q8, freeze, frzW, frzL]
end Pi
