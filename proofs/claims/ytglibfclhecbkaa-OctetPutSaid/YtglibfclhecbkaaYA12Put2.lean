import Derived.Test.YtglibfclhecbkaaYA12Put
set_option linter.unusedSimpArgs false
namespace Pi
open Pi.a12

theorem band (n : Nat) (h : n ≤ 1099511627776) : bin .and (.i .u64 n) (.i .u64 127) = some (.i .u64 ((n % 128 : Nat) : Int)) := by
  show some (V.i .u64 (Go.IntKind.u64.wrap ((BitVec.ofInt 64 ((n : Nat) : Int) &&& BitVec.ofInt 64 127).toNat : Nat))) = _
  have : (BitVec.ofInt 64 ((n : Nat) : Int) &&& BitVec.ofInt 64 127).toNat = n % 128 := by
    have e1 : BitVec.ofInt 64 ((n : Nat) : Int) = BitVec.ofNat 64 n := by simp
    rw [e1]
    have e2 : BitVec.ofInt 64 127 = BitVec.ofNat 64 127 := rfl
    rw [e2, BitVec.toNat_and, BitVec.toNat_ofNat, BitVec.toNat_ofNat, Nat.mod_eq_of_lt (by omega)]
    exact Nat.and_two_pow_sub_one_eq_mod n 7
  rw [this, u64w (by omega) (by omega)]
theorem bshr (n : Nat) : bin .shr (.i .u64 n) (.i .u64 7) = some (.i .u64 ((n / 128 : Nat) : Int)) := by
  show (if (7 : Int) < 0 then none else some (V.i .u64 ((n : Int).fdiv (2 ^ 7)))) = _
  rw [if_neg (by omega), Int.fdiv_eq_ediv_of_nonneg _ (by omega)]
  congr 2
theorem bge (n : Nat) : bin .geq (.i .u64 n) (.i .u64 128) = some (.b (decide ((128 : Int) ≤ n))) := rfl
theorem Buf.up {m : Sto} {B : V} {l : List Nat} {x y : Nat} (h : Buf m B l x) (hx : x ≤ y) : Buf m B l y := by
  rcases h with h | ⟨lo, h1, h2, h3, h4⟩
  · exact .inl h
  · exact .inr ⟨lo, h1, h2, h3, by omega⟩
theorem Buf.set {m : Sto} {B : V} {l : List Nat} {x j : Nat} {o : Option PObj} (h : Buf m B l x) (hj : j ≤ 16) : Buf (m.set j o) B l x := by
  rcases h with h | ⟨lo, h1, h2, h3, h4⟩
  · exact .inl h
  · exact .inr ⟨lo, h1, by rw [Sto.set, if_neg (by omega)]; exact h2, h3, h4⟩

/-- What holds of octet.Put's memory while it makes the bytes. -/
structure Mem (q : LoopRec) (n0 : Nat) (s : S) (n : Nat) (l : List Nat) : Prop where
  e0 : s.e 0 = .fn (.yield 16) [] []
  e1 : s.e 1 = .p 11 0
  m11 : s.m 11 = some (.cells [.i .u64 n] false)
  m16 : s.m 16 = some (.loop q)
  m15 : s.m 15 = some .dfr
  buf : ∃ B, s.m 8 = some (.cells [B] false) ∧ Buf s.m B l s.x
  hx : 16 < s.x
  hn : n ≤ 1099511627776
  all : l ++ digs n = digs n0
  ds : s.ds = []
  rv : s.rv = none
  rd : s.rd = none

theorem l42 {q : LoopRec} (hE : q.e 4 = .p 8 0) (q1 : q.ps = [16, 17]) (q2 : q.asg = a12_1) (q3 : q.body = b12_3) (q4 : q.st = .ready) (q5 : q.pend = none) (n0 : Nat) (hn0 : n0 ≤ 1099511627776) {s : S} (h : Mem q n0 s n0 []) :
    ∃ xx s', Runs ctx (.loop b42_5) s xx s' ∧ xx = .exit 0 ∧ ∃ n l, n < 128 ∧ Mem q n0 s' n l := by
  have hlen : (digs n0).length ≤ 6 := digs_len 5 (by omega)
  refine loop_ok (Inv := fun k s => ∃ l, Mem q n0 s k l) (Q := fun xx s' => xx = .exit 0 ∧ ∃ n l, n < 128 ∧ Mem q n0 s' n l) ?_ (k := n0) ⟨[], h⟩
  rintro n ⟨e, m, x, ds, rv, rd⟩ ⟨l, hm⟩
  obtain ⟨h0, h1, h2, h3, h4, ⟨B, h5, h6⟩, h7, h8, h9, h10, h11, h12⟩ := hm
  simp only at h0 h1 h2 h3 h4 h5 h6 h7 h10 h11 h12
  subst h10 h11 h12
  by_cases hn : 128 ≤ n
  · have hd : digs n = (n % 128 + 128) :: digs (n / 128) := by rw [digs, dif_neg (by omega)]
    have hol : l.length ≤ 5 := by
      have := congrArg List.length h9
      rw [hd] at this
      simp at this
      omega
    have hn' : (128 : Int) ≤ n := by omega
    have b1 := band n h8
    have b2 := bge n
    have b3 := bshr n
    have w1 : Go.IntKind.u8.wrap ((n % 128 : Nat) : Int) = ((n % 128 : Nat) : Int) := u8w (by omega) (by omega)
    simp only [b42_5, k42_4, wp, wpSegs, wpOps, wanted, opD, Opd.ev, S.put, Env.set, Sto.app, h0, h1, h2, getPart, b1, b2, hn', List.getElem?_cons_zero, Option.map_some, decide_true, reduceIte, List.foldl_nil, List.map_cons, List.map_nil, Nat.reduceEqDiff, Bool.false_eq_true, w1]
    refine y12 hE q1 q2 q3 q4 q5 h3 h5 (h6.up (by omega)) (by omega) (by omega) (n % 128) (by omega) true ?_
    intro m' x' B' k1 k2 k3 k4 k5 k6
    have k5' : m' 11 = some (.cells [.i .u64 n] false) := k5.trans h2
    simp only [o42_1, k42_2, k42_3, wp, wpSegs, wpOps, wanted, opD, Opd.ev, S.put, Env.set, Sto.app, una, h0, h1, k5', getPart, b3, List.getElem?_cons_zero, Option.map_some, reduceIte, List.foldl_nil, List.foldl_cons, Nat.reduceEqDiff, Bool.false_eq_true, Bool.not_true, V.cells, V.stor, splice, List.length_cons, List.length_nil, List.take_zero, List.nil_append, List.drop_succ_cons, List.drop_nil, Nat.le_refl, and_self, Nat.zero_add, List.drop_zero, List.append_nil]
    refine ⟨n / 128, by omega, l ++ [n % 128 + 128], ?_⟩
    refine ⟨h0, h1, ?_, ?_, ?_, ⟨B', ?_, ?_⟩, by simp only; omega, by omega, ?_, rfl, rfl, rfl⟩
    · simp [Sto.set]
    · simpa [Sto.set] using k2
    · simpa [Sto.set] using k6.trans h4
    · simpa [Sto.set] using k3
    · exact (k4.set (by omega)).up (by simp only; omega)
    · rw [← h9, hd]; simp
  · have hn' : ¬ (128 : Int) ≤ n := by omega
    have b2 := bge n
    simp only [b42_5, k42_4, wp, wpSegs, wpOps, wanted, opD, Opd.ev, S.put, Env.set, Sto.app, h0, h1, h2, getPart, b2, hn', List.getElem?_cons_zero, Option.map_some, decide_false, reduceIte, List.foldl_nil, Nat.reduceEqDiff, Bool.false_eq_true]
    refine ⟨trivial, n, l, by omega, h0, h1, h2, h3, h4, ⟨B, h5, h6.up (by simp only; omega)⟩, by simp only; omega, h8, h9, rfl, rfl, rfl⟩
end Pi
