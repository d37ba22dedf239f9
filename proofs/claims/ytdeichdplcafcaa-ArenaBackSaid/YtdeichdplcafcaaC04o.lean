/- Arenas: what Put puts, Get gets. -/
import Derived.Test.YtdeichdplcafcaaC04n
set_option linter.unusedSimpArgs false
set_option linter.unusedVariables false
namespace Pi
theorem fitAll_app : ∀ (a t : List N) (i : Nat), fitAll (a ++ t) i = (fitAll a i && fitAll t (i + a.length))
  | [], t, i => by simp [fitAll]
  | x :: r, t, i => by
    rw [List.cons_append, fitAll, fitAll, fitAll_app r t (i + 1), List.length_cons, Bool.and_assoc]
    congr 3
    omega
theorem levN_app {a t : List N} (hf : fitAll (a ++ t) 0 = true) : ∀ i, i < a.length → levN (a ++ t) i = levN a i := by
  have hfa : fitAll a 0 = true := by rw [fitAll_app, Bool.and_eq_true] at hf; exact hf.1
  intro i
  induction i using Nat.strongRecOn with
  | ind i ih =>
  intro hi
  have hfi : fitN a[i] (i : Nat) = true := by have := fitAll_get hfa hi; simpa using this
  have hi' : i < (a ++ t).length := by rw [List.length_append]; omega
  have e : (a ++ t)[i] = a[i] := List.getElem_append_left hi
  rw [levN_eq hf hi', levN_eq hfa hi, e]
  rcases fit_kids hfi with ⟨k0, ka, kb⟩ | ⟨k0, ⟨a', ka, ha⟩, kb⟩ | ⟨k0, ⟨a', ka, ha⟩, ⟨b', kb, hb⟩⟩
  · simp [k0]
  · have hta : a[i].a.toNat = a' := by omega
    rw [k0, hta, ih a' ha (by omega)]
    rfl
  · have hta : a[i].a.toNat = a' := by omega
    have htb : a[i].b.toNat = b' := by omega
    rw [k0, hta, htb, ih a' ha (by omega), ih b' hb (by omega)]
theorem levN_inj {b : List N} (hf : fitAll b 0 = true) (hn : b.Nodup) : ∀ i j, i < b.length → j < b.length → levN b i = levN b j → i = j := by
  intro i
  induction i using Nat.strongRecOn with
  | ind i ih =>
  intro j hi hj h
  have hfi : fitN b[i] (i : Nat) = true := by have := fitAll_get hf hi; simpa using this
  have hfj : fitN b[j] (j : Nat) = true := by have := fitAll_get hf hj; simpa using this
  have e := levN_eq hf hi
  have g := levN_eq hf hj
  rw [e, g] at h
  injection h with h1 h2 h3
  have hx : b[i] = b[j] := by
    rcases fit_kids hfi with ⟨k0, ka, kb⟩ | ⟨k0, ⟨a1, ka, ha⟩, kb⟩ | ⟨k0, ⟨a1, ka, ha⟩, ⟨b1, kb, hb⟩⟩
    · rcases fit_kids hfj with ⟨m0, ma, mb⟩ | ⟨m0, _⟩ | ⟨m0, _⟩
      · generalize b[i] = u at *
        generalize b[j] = v at *
        cases u; cases v
        simp_all
      · rw [← h1] at m0; omega
      · rw [← h1] at m0; omega
    · rcases fit_kids hfj with ⟨m0, ma, mb⟩ | ⟨m0, ⟨a2, ma, ha2⟩, mb⟩ | ⟨m0, _⟩
      · rw [← h1] at m0; omega
      · rw [k0, m0, if_neg (by omega), if_pos rfl, if_neg (by omega), if_pos rfl] at h3
        have h4 : levN b b[i].a.toNat = levN b b[j].a.toNat := by injection h3
        have h5 := ih _ (by omega) _ (by omega) (by omega) h4
        generalize b[i] = u at *
        generalize b[j] = v at *
        cases u; cases v
        simp only [N.mk.injEq] at *
        omega
      · rw [← h1] at m0; omega
    · rcases fit_kids hfj with ⟨m0, ma, mb⟩ | ⟨m0, _⟩ | ⟨m0, ⟨a2, ma, ha2⟩, ⟨b2, mb, hb2⟩⟩
      · rw [← h1] at m0; omega
      · rw [← h1] at m0; omega
      · rw [k0, m0, if_neg (by omega), if_neg (by omega), if_neg (by omega), if_neg (by omega)] at h3
        injection h3 with h4 h6
        injection h6 with h6 _
        have h5 := ih _ (by omega) _ (by omega) (by omega) h4
        have h7 := ih _ (by omega) _ (by omega) (by omega) h6
        generalize b[i] = u at *
        generalize b[j] = v at *
        cases u; cases v
        simp only [N.mk.injEq] at *
        omega
  have hp := List.pairwise_iff_getElem.1 hn
  rcases Nat.lt_trichotomy i j with h | h | h
  · exact absurd hx (hp i j hi hj h)
  · exact h
  · exact absurd hx.symm (hp j i hj hi h)
theorem levN_0 {c : List N} (hf : fitAll c 0 = true) {j : Nat} (hj : j < c.length) (h : kidsS c[j].kind = 0) : levN c j = .mk c[j].kind c[j].n [] := by rw [levN_eq hf hj, if_pos h]
theorem levN_1 {c : List N} (hf : fitAll c 0 = true) {j : Nat} (hj : j < c.length) (h : kidsS c[j].kind = 1) : levN c j = .mk c[j].kind c[j].n [levN c c[j].a.toNat] := by rw [levN_eq hf hj, if_neg (by omega), if_pos h]
theorem levN_2 {c : List N} (hf : fitAll c 0 = true) {j : Nat} (hj : j < c.length) (h : kidsS c[j].kind = 2) : levN c j = .mk c[j].kind c[j].n [levN c c[j].a.toNat, levN c c[j].b.toNat] := by rw [levN_eq hf hj, if_neg (by omega), if_neg (by omega)]
/-! Put. -/
def PutOk (l : L) (ns : List N) : Prop := ∃ t, (putN l ns).1 = ns ++ t ∧ fitAll (ns ++ t) 0 = true ∧ (ns ++ t).Nodup ∧ (putN l ns).2 < (ns ++ t).length ∧ levN (ns ++ t) (putN l ns).2 = l
theorem putKs_ok (ks : List L) (hk : ∀ k ∈ ks, ∀ ns, fitAll ns 0 = true → ns.Nodup → PutOk k ns) : ∀ ns, fitAll ns 0 = true → ns.Nodup →
    ∃ t, (putKs ks ns).1 = ns ++ t ∧ fitAll (ns ++ t) 0 = true ∧ (ns ++ t).Nodup ∧ ∀ i (h : i < ks.length), (putKs ks ns).2.getD i 0 < (ns ++ t).length ∧ levN (ns ++ t) ((putKs ks ns).2.getD i 0) = ks[i] := by
  induction ks with
  | nil => intro ns h1 h2; exact ⟨[], by simp [putKs_nil], by simpa using h1, by simpa using h2, fun i h => by simp at h⟩
  | cons k r ih =>
    intro ns h1 h2
    obtain ⟨t, a1, a2, a3, a4, a5⟩ := hk k (by simp) ns h1 h2
    rw [← a1] at a2 a3 a4 a5
    obtain ⟨u, b1, b2, b3, b4⟩ := ih (fun k' hk' => hk k' (by simp [hk'])) (putN k ns).1 a2 a3
    rw [putKs_cons]
    rw [a1] at b1 b2 b3 b4
    refine ⟨t ++ u, ?_, ?_, ?_, ?_⟩
    · simp only [a1]
      rw [b1, List.append_assoc]
    · rw [← List.append_assoc]; exact b2
    · rw [← List.append_assoc]; exact b3
    · intro i h
      rw [← List.append_assoc]
      cases i with
      | zero =>
        rw [a1] at a4 a5
        simp only [List.getD_cons_zero, List.getElem_cons_zero]
        refine ⟨by rw [List.length_append]; omega, ?_⟩
        rw [levN_app b2 _ a4, a5]
      | succ i =>
        have := b4 i (by simpa using h)
        simp only [a1]
        simpa using this
theorem namedS_n {l : L} (h : namedS l 5 10 = true) (hk : 0 ≤ kidsS l.kind) : 0 ≤ l.n ∧ l.n < mostN l.kind := by
  unfold namedS at h
  unfold mostN
  by_cases h5 : l.kind = 5
  · rw [if_pos h5] at h ⊢
    simp at h
    omega
  · rw [if_neg h5] at h ⊢
    by_cases h6 : l.kind = 6
    · rw [if_pos h6] at h ⊢
      simp at h
      omega
    · rw [if_neg h6] at h ⊢
      simp at h
      omega
theorem putN_ok (l : L) : ∀ d ns, rightS l 5 10 d = true → fitAll ns 0 = true → ns.Nodup → PutOk l ns := by
  induction l using L.ind with
  | h l ih =>
  intro d ns hr h1 h2
  obtain ⟨q1, q2, q3, q4⟩ := right_kid hr
  obtain ⟨t, a1, a2, a3, a4⟩ := putKs_ok l.kids (fun k hk ns h1 h2 => ih k hk (d - 1) ns (q4 k hk) h1 h2) ns h1 h2
  have hnn := namedS_n q3 (by omega)
  have hd : ∀ i, l.kids.length ≤ i → (putKs l.kids ns).2.getD i 0 = 0 := fun i hi => by
    have : ∀ (ks : List L) ns, (putKs ks ns).2.length = ks.length := by
      intro ks
      induction ks with
      | nil => intro ns; rw [putKs_nil]; rfl
      | cons k r ihr => intro ns; rw [putKs_cons]; simp [ihr]
    rw [List.getD_eq_getElem?_getD, List.getElem?_eq_none (by rw [this]; exact hi)]
    rfl
  obtain ⟨b, hb⟩ : ∃ b, b = ns ++ t := ⟨_, rfl⟩
  rw [← hb] at a1 a2 a3 a4
  have hfit : fitN (nodeOf l (putKs l.kids ns)) b.length = true := by
    unfold fitN nodeOf
    simp only
    match hks : l.kids with
    | [] =>
      have e0 : kidsS l.kind = 0 := by rw [hks] at q2; simpa using q2.symm
      simp [e0, hnn, putKs_nil]
    | [k1] =>
      have e0 : kidsS l.kind = 1 := by rw [hks] at q2; simpa using q2.symm
      have p0 := (a4 0 (by rw [hks]; simp)).1
      have p1 := hd 1 (by rw [hks]; simp)
      rw [hks] at p0 p1
      simp [e0, hnn] at p0 p1 ⊢
      omega
    | [k1, k2] =>
      have e0 : kidsS l.kind = 2 := by rw [hks] at q2; simpa using q2.symm
      have p0 := (a4 0 (by rw [hks]; simp)).1
      have p1 := (a4 1 (by rw [hks]; simp)).1
      rw [hks] at p0 p1
      simp [e0, hnn] at p0 p1 ⊢
      omega
    | k1 :: k2 :: k3 :: r => rw [hks] at q2; simp at q2; have := kidsS_cases l.kind; omega
  have key : ∀ (c : List N) (j : Nat) (v : List N) (hj : j < c.length), c = b ++ v → fitAll c 0 = true → c[j] = nodeOf l (putKs l.kids ns) → levN c j = l := by
    intro c j v hj hc hf hx
    have hst : ∀ i, i < b.length → levN c i = levN b i := fun i hi => by rw [hc] at hf ⊢; exact levN_app hf i hi
    have hxk : c[j].kind = l.kind := by rw [hx]; rfl
    have hxn : c[j].n = l.n := by rw [hx]; rfl
    have hxa : c[j].a.toNat = (putKs l.kids ns).2.getD 0 0 := by rw [hx]; simp [nodeOf]
    have hxb : c[j].b.toNat = (putKs l.kids ns).2.getD 1 0 := by rw [hx]; simp [nodeOf]
    have hl : l = .mk l.kind l.n l.kids := by cases l; rfl
    match hks : l.kids with
    | [] =>
      have e0 : kidsS l.kind = 0 := by rw [hks] at q2; simpa using q2.symm
      rw [hl, hks, levN_0 hf hj (by rw [hxk]; exact e0), hxk, hxn]
    | [k1] =>
      have e0 : kidsS l.kind = 1 := by rw [hks] at q2; simpa using q2.symm
      obtain ⟨p0, p1⟩ := a4 0 (by rw [hks]; simp)
      rw [levN_1 hf hj (by rw [hxk]; exact e0), hxk, hxn, hxa, hst _ p0, p1]
      conv => rhs; rw [hl]
      simp [hks]
    | [k1, k2] =>
      have e0 : kidsS l.kind = 2 := by rw [hks] at q2; simpa using q2.symm
      obtain ⟨p0, p1⟩ := a4 0 (by rw [hks]; simp)
      obtain ⟨p2, p3⟩ := a4 1 (by rw [hks]; simp)
      rw [levN_2 hf hj (by rw [hxk]; exact e0), hxk, hxn, hxa, hxb, hst _ p0, p1, hst _ p2, p3]
      conv => rhs; rw [hl]
      simp [hks]
    | k1 :: k2 :: k3 :: r => rw [hks] at q2; simp at q2; have := kidsS_cases l.kind; omega
  unfold PutOk
  rw [putN_eq, a1]
  cases hp : posN (nodeOf l (putKs l.kids ns)) b 0 with
  | some j =>
    obtain ⟨i, hi1, hi2⟩ := posN_some hp
    have hji : j = i := by omega
    subst hji
    obtain ⟨hj, hj2⟩ := List.getElem?_eq_some_iff.1 hi2
    refine ⟨t, by rw [hb], by rw [← hb]; exact a2, by rw [← hb]; exact a3, by rw [← hb]; exact hj, ?_⟩
    rw [← hb]
    exact key b j [] hj (by simp) a2 hj2
  | none =>
    have hni := posN_none.1 hp
    have hf : fitAll (b ++ [nodeOf l (putKs l.kids ns)]) 0 = true := by rw [fitAll_app, a2]; simp [fitAll, hfit]
    have hnd : (b ++ [nodeOf l (putKs l.kids ns)]).Nodup := by
      rw [List.nodup_append]
      refine ⟨a3, by simp, ?_⟩
      rintro a ha c hc rfl
      simp at hc
      subst hc
      exact hni ha
    have e : ns ++ (t ++ [nodeOf l (putKs l.kids ns)]) = b ++ [nodeOf l (putKs l.kids ns)] := by rw [hb, List.append_assoc]
    refine ⟨t ++ [nodeOf l (putKs l.kids ns)], e.symm, by rw [e]; exact hf, by rw [e]; exact hnd, by rw [e]; simp, ?_⟩
    rw [e]
    exact key _ b.length [_] (by simp) rfl hf (by simp)
/-! How deep, and how many. -/
theorem szT_get (l : List N) (d : A) {i : Nat} : ∀ {j : Nat}, i < j → j ≤ l.length → (szT l j).getD i d = szOne (szT l i) (l.getD i default)
  | 0, h, _ => by omega
  | j + 1, h, hj => by
    have hl := (szT_ok l j (by omega)).1
    rw [szT, List.getElem?_eq_getElem (by omega)]
    by_cases hij : i = j
    · subst hij
      simp [List.getElem?_append_right, hl, List.getElem?_eq_getElem (by omega : i < l.length)]
    · have ih := szT_get l d (i := i) (j := j) (by omega) (by omega)
      rw [← ih]
      simp [List.getElem?_append_left (by omega : i < (szT l j).length)]
theorem szT_bd {b : List N} (hf : fitAll b 0 = true) : ∀ (i : Nat), i < b.length → ∀ d : Int, rightS (levN b i) 5 10 d = true → ((szT b b.length).getD i ⟨0, 0⟩).var ≤ d ∧ ((szT b b.length).getD i ⟨0, 0⟩).off ≤ szL (levN b i) := by
  intro i
  induction i using Nat.strongRecOn with
  | ind i ih =>
  intro hi d hr
  have hfi : fitN b[i] (i : Nat) = true := by have := fitAll_get hf hi; simpa using this
  have e0 : b.getD i default = b[i] := by simp [hi]
  have key : ∀ j : Nat, j < i → (szT b i).getD j ⟨0, 0⟩ = (szT b b.length).getD j ⟨0, 0⟩ := fun j hj => by
    rw [szT_get b _ hj (by omega), szT_get b _ (by omega : j < b.length) (Nat.le_refl _)]
  rw [szT_get b _ hi (Nat.le_refl _), e0]
  obtain ⟨q1, q2, q3, q4⟩ := right_kid hr
  unfold szOne
  rcases fit_kids hfi with ⟨k0, ka, kb⟩ | ⟨k0, ⟨a1, ka, ha⟩, kb⟩ | ⟨k0, ⟨a1, ka, ha⟩, ⟨b1, kb, hb⟩⟩
  · have h0 := levN_0 hf hi k0
    rw [if_pos k0, h0]
    simp [szL, szLs]
    omega
  · have h0 := levN_1 hf hi k0
    have hta : b[i].a.toNat = a1 := by omega
    rw [hta] at h0
    have hA := ih a1 ha (by omega) (d - 1) (q4 _ (by rw [h0]; simp))
    rw [if_neg (by omega), if_pos k0, h0, hta, key a1 ha]
    simp only [szL, szLs]
    omega
  · have h0 := levN_2 hf hi k0
    have hta : b[i].a.toNat = a1 := by omega
    have htb : b[i].b.toNat = b1 := by omega
    rw [hta, htb] at h0
    have hA := ih a1 ha (by omega) (d - 1) (q4 _ (by rw [h0]; simp))
    have hB := ih b1 hb (by omega) (d - 1) (q4 _ (by rw [h0]; simp))
    rw [if_neg (by omega), if_neg (by omega), h0, hta, htb, key a1 ha, key b1 hb]
    simp only [szL, szLs]
    omega
end Pi

