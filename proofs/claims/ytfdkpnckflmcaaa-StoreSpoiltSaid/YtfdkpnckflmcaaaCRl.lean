/- Lists that are read, lists of clauses that lie in memory. -/
import Derived.Test.YtfdkpnckflmcaaaEncC
import Derived.Test.YtfdkpnckflmcaaaFw4
set_option linter.unusedSimpArgs false
set_option linter.unusedVariables false
namespace Pi
/-- Stores that are alike at some places, but for what may be written to. -/
def Ag (A : Nat → Prop) (m m' : Sto) : Prop := ∀ j, A j → bare (m' j) = bare (m j)
theorem Ag.refl (A : Nat → Prop) (m : Sto) : Ag A m m := fun _ _ => rfl
theorem Ag.trans {A : Nat → Prop} {m m' m2 : Sto} (h : Ag A m m') (k : Ag A m' m2) : Ag A m m2 := fun j hj => (k j hj).trans (h j hj)
theorem Ag.mono {A B : Nat → Prop} {m m' : Sto} (h : Ag A m m') (k : ∀ j, B j → A j) : Ag B m m' := fun j hj => h j (k j hj)
theorem Ag.eq {A : Nat → Prop} {m m' : Sto} (h : ∀ j, A j → m' j = m j) : Ag A m m' := fun j hj => by rw [h j hj]
theorem Ag.aft {A : Nat → Prop} (w : V) (m : Sto) (ids : List Nat) : Ag A m (aft w m ids) := fun j _ => bare_aft w ids m j
theorem slO_bare (o : Option PObj) (esz off len esz' : Nat) : slO o esz off len esz' = slO (bare o) esz off len esz' := by
  cases o with
  | none => rfl
  | some o => cases o <;> rfl
section
variable {α : Type} {f : α → List V} {k : Nat}
/-- A value that reads as a list, where a store is alike at some places. -/
structure Rl (A : Nat → Prop) (m : Sto) (f : α → List V) (k : Nat) (B : V) (l : List α) : Prop where
  sl : ∀ m', Ag A m m' → slCells m' k B = some (l.flatMap f)
  fz : ∀ m', Ag A m m' → ∀ n, ∃ ids, frzW (der m' (n + 1)) B = some (sV f l, ids) ∧ ∀ i ∈ ids, A i
  len : lenSl B = some l.length
  stor : B.stor = true
  cells : B.cells = [B]
theorem Rl.up {A : Nat → Prop} {m m' : Sto} {B : V} {l : List α} (h : Rl A m f k B l) (hm : Ag A m m') : Rl A m' f k B l :=
  ⟨fun m2 h2 => h.sl m2 (hm.trans h2), fun m2 h2 => h.fz m2 (hm.trans h2), h.len, h.stor, h.cells⟩
theorem Rl.mono {A A' : Nat → Prop} {m : Sto} {B : V} {l : List α} (h : Rl A m f k B l) (hA : ∀ j, A j → A' j) : Rl A' m f k B l :=
  ⟨fun m2 h2 => h.sl m2 (h2.mono hA), fun m2 h2 n => let ⟨ids, e, hi⟩ := h.fz m2 (h2.mono hA) n; ⟨ids, e, fun i h => hA i (hi i h)⟩, h.len, h.stor, h.cells⟩
theorem Rl.sV [h : Cel f k] (A : Nat → Prop) (m : Sto) (l : List α) : Rl A m f k (sV f l) l :=
  ⟨fun m' _ => slCells_sV m' l, fun m' _ n => ⟨[], by simp [Pi.sV], fun i h => by cases h⟩, rfl, rfl, rfl⟩
theorem Rl.Bf [h : Cel f k] {m : Sto} {B : V} {l : List α} {lo x : Nat} (hB : Bf m B f k l lo x) : Rl (fun j => lo ≤ j ∧ j < x) m f k B l := by
  refine ⟨fun m' hm => ?_, fun m' hm n => ?_, hB.len, hB.stor, hB.cells⟩
  · rcases hB with ⟨rfl, rfl⟩ | ⟨a, cs, rfl, h2, hR, h3, h4⟩
    · rfl
    · have hb := hm a ⟨h3, h4⟩
      rw [h2] at hb
      rw [slCells_ms, slO_bare, hb, ← slO_bare, slO_cells, if_pos ⟨rfl, by rw [Nat.zero_add]; exact hR.le⟩, List.drop_zero, hR.eq]
  · rcases hB with ⟨rfl, rfl⟩ | ⟨a, cs, rfl, h2, hR, h3, h4⟩
    · exact ⟨_, frzW_ns _, fun i h => by cases h⟩
    · have hb := hm a ⟨h3, h4⟩
      rw [h2] at hb
      refine ⟨[a], ?_, fun i hi => by rw [List.mem_singleton.1 hi]; exact ⟨h3, h4⟩⟩
      rw [frzW_ms, der_s, derO_bare, hb, ← derO_bare, derO_cells, hR.fz]
      simp only [Option.bind_some, true_and, List.drop_zero, Nat.zero_add]
      rw [if_pos hR.le, hR.eq]
      rfl
theorem Rl.fz24 {A : Nat → Prop} {m : Sto} {B : V} {l : List α} (h : Rl A m f k B l) : ∃ ids, frzW (der m 24) B = some (Pi.sV f l, ids) ∧ ∀ i ∈ ids, A i := h.fz m (.refl _ _) 23
end
/-- A clause's cells, with its list. -/
def trip (F : V) (c : C) : List V := [F, .i .i64 c.to.var, .i .i64 c.to.off]
def trips : List V → List C → List V
  | F :: fs, c :: cl => trip F c ++ trips fs cl
  | _, _ => []
/-- The lists read as the clauses' lists. -/
def Fr (A : Nat → Prop) (m : Sto) : List V → List C → Prop
  | [], [] => True
  | F :: fs, c :: cl => Rl A m cA 2 F c.frm ∧ Fr A m fs cl
  | _, _ => False
theorem Fr.len {A : Nat → Prop} {m : Sto} : ∀ {fs : List V} {cl : List C}, Fr A m fs cl → fs.length = cl.length
  | [], [], _ => rfl
  | F :: fs, c :: cl, h => by simp [Fr.len h.2]
  | [], _ :: _, h => h.elim
  | _ :: _, [], h => h.elim
theorem Fr.up {A A' : Nat → Prop} {m m' : Sto} (hm : Ag A m m') (hA : ∀ j, A j → A' j) : ∀ {fs : List V} {cl : List C}, Fr A m fs cl → Fr A' m' fs cl
  | [], [], _ => trivial
  | F :: fs, c :: cl, h => ⟨(h.1.up hm).mono hA, Fr.up hm hA h.2⟩
  | [], _ :: _, h => h.elim
  | _ :: _, [], h => h.elim
theorem Fr.app {A : Nat → Prop} {m : Sto} : ∀ {fs gs : List V} {cl dl : List C}, Fr A m fs cl → Fr A m gs dl → Fr A m (fs ++ gs) (cl ++ dl)
  | [], _, [], _, _, k => k
  | F :: fs, _, c :: cl, _, h, k => ⟨h.1, Fr.app h.2 k⟩
  | [], _, _ :: _, _, h, _ => h.elim
  | _ :: _, _, [], _, h, _ => h.elim
theorem Fr.at {A : Nat → Prop} {m : Sto} : ∀ {fs : List V} {cl : List C} {i : Nat} (h : i < cl.length), Fr A m fs cl → ∃ F, fs[i]? = some F ∧ Rl A m cA 2 F cl[i].frm
  | [], [], i, hi, _ => by simp at hi
  | F :: fs, c :: cl, 0, _, h => ⟨F, rfl, h.1⟩
  | F :: fs, c :: cl, i + 1, hi, h => by
    obtain ⟨F', h1, h2⟩ := Fr.at (i := i) (by simpa using hi) h.2
    exact ⟨F', by simpa using h1, by simpa using h2⟩
  | [], _ :: _, _, _, h => h.elim
  | _ :: _, [], _, _, h => h.elim
theorem Fr.set {A : Nat → Prop} {m : Sto} : ∀ {fs : List V} {cl : List C} {i : Nat} {F : V} (h : i < cl.length), Fr A m fs cl → Rl A m cA 2 F cl[i].frm → Fr A m (fs.set i F) cl
  | [], [], i, _, hi, _, _ => by simp at hi
  | G :: fs, c :: cl, 0, F, _, h, k => ⟨k, h.2⟩
  | G :: fs, c :: cl, i + 1, F, hi, h, k => ⟨h.1, Fr.set (i := i) (by simpa using hi) h.2 (by simpa using k)⟩
  | [], _ :: _, _, _, _, h, _ => h.elim
  | _ :: _, [], _, _, _, h, _ => h.elim
theorem Fr.sv (A : Nat → Prop) (m : Sto) : ∀ cl : List C, Fr A m (cl.map fun c => sV cA c.frm) cl
  | [] => trivial
  | c :: cl => ⟨Rl.sV A m c.frm, Fr.sv A m cl⟩
theorem trips_sv : ∀ cl : List C, trips (cl.map fun c => sV cA c.frm) cl = cl.flatMap cC
  | [] => rfl
  | c :: cl => by
    rw [List.map_cons, List.flatMap_cons, trips, trips_sv cl]
    rfl
theorem trips_len : ∀ {fs : List V} {cl : List C}, fs.length = cl.length → (trips fs cl).length = cl.length * 3
  | [], [], _ => rfl
  | F :: fs, c :: cl, h => by
    rw [trips, List.length_append, trips_len (by simpa using h)]
    simp [trip]
    omega
  | [], _ :: _, h => by simp at h
  | _ :: _, [], h => by simp at h
theorem trips_app : ∀ {fs gs : List V} {cl dl : List C}, fs.length = cl.length → trips (fs ++ gs) (cl ++ dl) = trips fs cl ++ trips gs dl
  | [], _, [], _, _ => rfl
  | F :: fs, gs, c :: cl, dl, h => by
    rw [List.cons_append, List.cons_append, trips, trips, trips_app (by simpa using h), List.append_assoc]
  | [], _, _ :: _, _, h => by simp at h
  | _ :: _, _, [], _, h => by simp at h
theorem trips_drop : ∀ {fs : List V} {cl : List C} {i : Nat}, fs.length = cl.length → (trips fs cl).drop (i * 3) = trips (fs.drop i) (cl.drop i)
  | fs, cl, 0, _ => by simp
  | [], [], i + 1, _ => by simp [trips]
  | F :: fs, c :: cl, i + 1, h => by
    rw [trips, List.drop_succ_cons, List.drop_succ_cons, ← trips_drop (i := i) (by simpa using h)]
    have e : (i + 1) * 3 = 3 + i * 3 := by omega
    rw [e, ← List.drop_drop]
    rfl
  | [], _ :: _, _ + 1, h => by simp at h
  | _ :: _, [], _ + 1, h => by simp at h
theorem trips_set : ∀ {fs : List V} {cl : List C} {i : Nat} {F : V}, fs.length = cl.length → i < cl.length → (trips fs cl).set (i * 3) F = trips (fs.set i F) cl
  | [], [], i, _, _, hi => by simp at hi
  | G :: fs, c :: cl, 0, F, h, hi => by simp [trips, trip]
  | G :: fs, c :: cl, i + 1, F, h, hi => by
    have e : (i + 1) * 3 = i * 3 + 1 + 1 + 1 := by omega
    rw [List.set_cons_succ, trips, trips, ← trips_set (i := i) (by simpa using h) (by simpa using hi), e]
    rfl
  | [], _ :: _, _, _, h, _ => by simp at h
  | _ :: _, [], _, _, h, _ => by simp at h
theorem Fr.fz {A : Nat → Prop} {m m' : Sto} (hm : Ag A m m') (n : Nat) : ∀ {fs : List V} {cl : List C}, Fr A m fs cl → ∃ ids, frzL (der m' (n + 1)) (trips fs cl) = some (cl.flatMap cC, ids) ∧ ∀ i ∈ ids, A i
  | [], [], _ => ⟨[], rfl, fun i h => by cases h⟩
  | F :: fs, c :: cl, h => by
    obtain ⟨i1, e1, a1⟩ := h.1.fz m' hm n
    obtain ⟨i2, e2, a2⟩ := Fr.fz hm n h.2
    refine ⟨i1 ++ i2, ?_, fun i hi => (List.mem_append.1 hi).elim (a1 i) (a2 i)⟩
    simp only [trips, trip, List.cons_append, List.nil_append, frzL_cons, e1, e2, List.flatMap_cons, cC]
    simp
  | [], _ :: _, h => h.elim
  | _ :: _, [], h => h.elim
/-- A value that reads as a list of clauses. -/
structure Rc (A : Nat → Prop) (m : Sto) (B : V) (cl : List C) (fs : List V) : Prop where
  sl : ∀ m', Ag A m m' → slCells m' 3 B = some (trips fs cl)
  fr : Fr A m fs cl
  fz : ∀ m', Ag A m m' → ∀ n, ∃ ids, frzW (der m' (n + 2)) B = some (Pi.sV cC cl, ids) ∧ ∀ i ∈ ids, A i
  len : lenSl B = some cl.length
  stor : B.stor = true
  cells : B.cells = [B]
theorem Rc.up {A A' : Nat → Prop} {m m' : Sto} {B : V} {cl : List C} {fs : List V} (h : Rc A m B cl fs) (hm : Ag A m m') (hA : ∀ j, A j → A' j) : Rc A' m' B cl fs :=
  ⟨fun m2 h2 => h.sl m2 (hm.trans (h2.mono hA)), h.fr.up hm hA, fun m2 h2 n => let ⟨ids, e, hi⟩ := h.fz m2 (hm.trans (h2.mono hA)) n; ⟨ids, e, fun i h => hA i (hi i h)⟩, h.len, h.stor, h.cells⟩
theorem Rc.sV (A : Nat → Prop) (m : Sto) (cl : List C) : Rc A m (Pi.sV cC cl) cl (cl.map fun c => Pi.sV cA c.frm) :=
  ⟨fun m' _ => by rw [trips_sv]; exact slCells_sV m' cl, Fr.sv A m cl, fun m' _ n => ⟨[], by simp [Pi.sV], fun i h => by cases h⟩, rfl, rfl, rfl⟩
theorem Rc.fz24 {A : Nat → Prop} {m : Sto} {B : V} {cl : List C} {fs : List V} (h : Rc A m B cl fs) : ∃ ids, frzW (der m 24) B = some (Pi.sV cC cl, ids) ∧ ∀ i ∈ ids, A i := h.fz m (.refl _ _) 22
/-- A list of clauses in memory of its own. -/
def Xc (m : Sto) (B : V) (cl : List C) (fs : List V) (lo x : Nat) : Prop :=
  (B = .ns ∧ cl = [] ∧ fs = []) ∨ ∃ a, B = .ms a 0 cl.length 3 ∧ m a = some (.cells (trips fs cl) false) ∧ lo ≤ a ∧ a < x ∧ Fr (fun j => lo ≤ j ∧ j < x ∧ j ≠ a) m fs cl
theorem Xc.nil {m : Sto} {lo x : Nat} : Xc m .ns [] [] lo x := .inl ⟨rfl, rfl, rfl⟩
theorem Xc.rc {m : Sto} {B : V} {cl : List C} {fs : List V} {lo x : Nat} (h : Xc m B cl fs lo x) : Rc (fun j => lo ≤ j ∧ j < x) m B cl fs := by
  rcases h with ⟨rfl, rfl, rfl⟩ | ⟨a, rfl, h2, h3, h4, h5⟩
  · exact ⟨fun m' _ => rfl, trivial, fun m' _ n => ⟨_, frzW_ns _, fun i h => by cases h⟩, rfl, rfl, rfl⟩
  · have hl := trips_len h5.len
    refine ⟨fun m' hm => ?_, h5.up (.refl _ _) (fun j hj => ⟨hj.1, hj.2.1⟩), fun m' hm n => ?_, rfl, rfl, rfl⟩
    · have hb := hm a ⟨h3, h4⟩
      rw [h2] at hb
      rw [slCells_ms, slO_bare, hb, ← slO_bare, slO_cells, if_pos ⟨rfl, by rw [Nat.zero_add, hl]; exact Nat.le_refl _⟩, List.drop_zero, List.take_of_length_le (by rw [hl]; exact Nat.le_refl _)]
    · have hb := hm a ⟨h3, h4⟩
      rw [h2] at hb
      obtain ⟨ids, e2, e3⟩ := h5.fz (m' := m') (hm.mono fun j hj => ⟨hj.1, hj.2.1⟩) n
      refine ⟨a :: ids, ?_, fun i hi => ?_⟩
      rotate_left
      · rcases List.mem_cons.1 hi with rfl | hi
        · exact ⟨h3, h4⟩
        · exact ⟨(e3 i hi).1, (e3 i hi).2.1⟩
      rw [frzW_ms, der_s, derO_bare, hb, ← derO_bare, derO_cells, e2]
      simp only [Option.bind_some, true_and, List.drop_zero, Nat.zero_add]
      rw [if_pos (by rw [flat_len]; exact Nat.le_refl _), List.take_of_length_le (by rw [flat_len]; exact Nat.le_refl _)]
      rfl
theorem Xc.up {m m' : Sto} {B : V} {cl : List C} {fs : List V} {lo lo' x x' : Nat} (h : Xc m B cl fs lo x) (hl : lo' ≤ lo) (hx : x ≤ x') (hm : ∀ j, lo ≤ j → j < x → m' j = m j) : Xc m' B cl fs lo' x' := by
  rcases h with h | ⟨a, h1, h2, h3, h4, h5⟩
  · exact .inl h
  · exact .inr ⟨a, h1, by rw [hm a h3 h4, h2], by omega, by omega, h5.up (.eq fun j hj => hm j hj.1 hj.2.1) (fun j hj => ⟨by omega, by omega, hj.2.2⟩)⟩
theorem Fr.nil {A : Nat → Prop} {m : Sto} {fs : List V} {cl : List C} (h : Fr A m fs cl) (hn : cl.length = 0) : fs = [] ∧ cl = [] := by
  have h1 := h.len
  exact ⟨List.eq_nil_of_length_eq_zero (by omega), List.eq_nil_of_length_eq_zero hn⟩
/-- Clauses more. -/
theorem Xc.ap {m m' : Sto} {B : V} {cl dl : List C} {fs gs : List V} {lo lo1 x slot n : Nat} {K : V → Ws → Prop} {xs : List V} (h : Xc m B cl fs lo1 x) (hm : ∀ j, lo1 ≤ j → j < x → m' j = m j) (hx : x ≤ slot) (hl1 : lo ≤ lo1) (hl2 : lo1 ≤ slot)
    (hxs : xs = trips gs dl) (hn : n = dl.length) (hg : Fr (fun j => lo ≤ j ∧ j < slot ∧ (j < lo1 ∨ x ≤ j)) m' gs dl) (hl : cl.length + dl.length ≤ 2147483648)
    (hK : ∀ B' ws m2, m'.app ws = m2 → Xc m2 B' (cl ++ dl) (fs ++ gs) lo (slot + 1) → (∀ j, j < lo1 → m2 j = m' j) → (∀ j, x ≤ j → j < slot → m2 j = m' j) → K B' ws) : opK (apV m' 3 B xs n slot) K := by
  subst hn hxs
  have hgl := trips_len hg.len
  rcases h with ⟨rfl, rfl, rfl⟩ | ⟨a, rfl, h2, h3, h4, h5⟩
  · by_cases h0 : dl.length = 0
    · obtain ⟨rfl, rfl⟩ := hg.nil h0
      rw [apV_ns, if_pos (by rfl)]
      exact hK _ _ _ rfl Xc.nil (fun _ _ => rfl) (fun _ _ _ => rfl)
    · have hB : dl.length ≤ BIG := by unfold BIG; simp at hl; omega
      rw [apV_ns, if_neg h0, if_pos hB]
      refine hK _ _ _ rfl (.inr ⟨slot, by simp, by rw [sapp_cons, sapp_nil, Sto.seq]; rfl, by omega, by omega, ?_⟩) (fun j hj => ?_) (fun j h1 h2 => ?_)
      · refine hg.up (.eq fun j hj => ?_) (fun j hj => ⟨hj.1, by omega, by omega⟩)
        rw [sapp_cons, sapp_nil, Sto.sne _ _ _ _ (by simp only; omega)]
      · rw [sapp_cons, sapp_nil, Sto.sne _ _ _ _ (by simp only; omega)]
      · rw [sapp_cons, sapp_nil, Sto.sne _ _ _ _ (by simp only; omega)]
  · have hfl := trips_len h5.len
    have ha : m' a = some (.cells (trips fs cl) false) := by rw [hm a h3 h4, h2]
    by_cases h0 : dl.length = 0
    · obtain ⟨rfl, rfl⟩ := hg.nil h0
      rw [apV_ms, if_pos (by rfl)]
      refine hK _ _ _ rfl (.inr ⟨a, by simp, by rw [sapp_nil, ha]; simp, by omega, by omega, ?_⟩) (fun _ _ => rfl) (fun _ _ _ => rfl)
      rw [List.append_nil, List.append_nil]
      exact h5.up (.eq fun j hj => by rw [sapp_nil]; exact hm j hj.1 hj.2.1) (fun j hj => ⟨by omega, by omega, hj.2.2⟩)
    · have hB : cl.length + dl.length ≤ BIG := by unfold BIG; omega
      rw [apV_ms, if_neg h0, ha, apO_cells, if_pos ⟨rfl, by rw [hfl]; exact Nat.le_refl _, hB⟩, List.take_of_length_le (by rw [hfl]; exact Nat.le_refl _)]
      have far : ∀ j, j ≠ a → j ≠ slot → (m'.app [(a, none), (slot, some (.cells (trips fs cl ++ trips gs dl) false))]) j = m' j := by
        intro j q1 q2
        rw [sapp_cons, sapp_cons, sapp_nil, Sto.sne _ _ _ _ q2, Sto.sne _ _ _ _ q1]
      refine hK _ _ _ rfl (.inr ⟨slot, by simp, by rw [sapp_cons, sapp_cons, sapp_nil, Sto.seq, trips_app h5.len], by omega, by omega, ?_⟩) (fun j hj => far j (by omega) (by omega)) (fun j h1 h2 => far j (by omega) (by omega))
      refine Fr.app ?_ ?_
      · exact h5.up (.eq fun j hj => by rw [far j hj.2.2 (by omega)]; exact hm j hj.1 hj.2.1) (fun j hj => ⟨by omega, by omega, by omega⟩)
      · exact hg.up (.eq fun j hj => far j (by omega) (by omega)) (fun j hj => ⟨hj.1, by omega, by omega⟩)
theorem Own.app {x : Nat} : ∀ {ws : Ws} {m : Sto}, Own m x → (∀ a b, (a, b) ∈ ws → ownO x b = true) → Own (m.app ws) x
  | [], m, h, _ => h
  | (a, b) :: r, m, h, k => by
    rw [sapp_cons]
    exact Own.app (h.set (k a b (List.mem_cons_self))) (fun a' b' hb => k a' b' (List.mem_cons_of_mem _ hb))
theorem over_app {x : Nat} : ∀ (a b : List V), overL x (a ++ b) = (overL x a && overL x b)
  | [], b => by simp [overL]
  | c :: a, b => by simp [overL, over_app a b, Bool.and_assoc]
theorem over_flat {α : Type} {f : α → List V} {x : Nat} (h : ∀ a, overL x (f a) = true) : ∀ l : List α, overL x (l.flatMap f) = true
  | [] => rfl
  | a :: l => by rw [List.flatMap_cons, over_app, h a, over_flat h l]; rfl
theorem over_cI (x : Nat) (l : List Int) : overL x (l.flatMap cI) = true := over_flat (fun _ => rfl) l
theorem over_cA (x : Nat) (l : List A) : overL x (l.flatMap cA) = true := over_flat (fun _ => rfl) l
theorem over_trips {x : Nat} : ∀ {fs : List V} {cl : List C}, (∀ F ∈ fs, F.over x = true) → overL x (trips fs cl) = true
  | [], _, _ => by simp [trips, overL]
  | _ :: _, [], _ => by simp [trips, overL]
  | F :: fs, c :: cl, h => by
    rw [trips, over_app, over_trips (fun G hG => h G (List.mem_cons_of_mem _ hG))]
    have := h F (List.mem_cons_self)
    simp [trip, overL, this, V.over]
theorem IfK_pos {p a b : Prop} (h : p) : IfK p a b = a := by simp [IfK, h]
/-- A new list. -/
theorem Bf.new {α : Type} {f : α → List V} {k : Nat} [h : Cel f k] {m' : Sto} (l : List α) {slot n : Nat} {K : V → Ws → Prop} {xs : List V} (hxs : xs = l.flatMap f) (hn : n = l.length) (hl : l.length ≤ 2147483648)
    (hK : ∀ B ws m2, m'.app ws = m2 → (∀ a b, (a, b) ∈ ws → a = slot ∧ b = some (.cells xs false)) → Bf m2 B f k l slot (slot + 1) → (∀ j, j ≠ slot → m2 j = m' j) → (B = .ns ∨ B = .ms slot 0 l.length k) → K B ws) : opK (apV m' k .ns xs n slot) K := by
  subst hn hxs
  by_cases h0 : l.length = 0
  · have := List.eq_nil_of_length_eq_zero h0
    subst this
    rw [apV_ns, if_pos (by rfl)]
    exact hK _ _ _ rfl (fun a b h => by cases h) Bf.nil (fun _ _ => rfl) (.inl rfl)
  · have hB : l.length ≤ BIG := by unfold BIG; omega
    rw [apV_ns, if_neg h0, if_pos hB]
    refine hK _ _ _ rfl (fun a b h => ?_) (Bf.mem (by rw [sapp_cons, sapp_nil, Sto.seq]) rfl rfl (by omega) (by omega)) (fun j hj => ?_) (.inr rfl)
    · simp at h; exact h
    · rw [sapp_cons, sapp_nil, Sto.sne _ _ _ _ (by simpa using hj)]
/-- A list of clauses as it is written. -/
def Yc (m : Sto) (B : V) (cl : List C) (fs : List V) (a : Nat) : Prop := (B = .ns ∧ cl = [] ∧ fs = []) ∨ (B = .ms a 0 cl.length 3 ∧ m a = some (.cells (trips fs cl) false))
theorem Yc.new {m' : Sto} (cl : List C) (fs : List V) {slot n : Nat} {K : V → Ws → Prop} {xs : List V} (hf : fs.length = cl.length) (hxs : xs = trips fs cl) (hn : n = cl.length) (hl : cl.length ≤ 2147483648)
    (hK : ∀ B ws m2, m'.app ws = m2 → (∀ a b, (a, b) ∈ ws → a = slot ∧ b = some (.cells xs false)) → Yc m2 B cl fs slot → (∀ j, j ≠ slot → m2 j = m' j) → K B ws) : opK (apV m' 3 .ns xs n slot) K := by
  subst hn hxs
  by_cases h0 : cl.length = 0
  · have := List.eq_nil_of_length_eq_zero h0
    subst this
    rw [apV_ns, if_pos (by rfl)]
    exact hK _ _ _ rfl (fun a b h => by cases h) (.inl ⟨rfl, rfl, List.eq_nil_of_length_eq_zero (by rw [hf]; rfl)⟩) (fun _ _ => rfl)
  · have hB : cl.length ≤ BIG := by unfold BIG; omega
    rw [apV_ns, if_neg h0, if_pos hB]
    refine hK _ _ _ rfl (fun a b h => ?_) (.inr ⟨rfl, by rw [sapp_cons, sapp_nil, Sto.seq]⟩) (fun j hj => ?_)
    · simp at h; exact h
    · rw [sapp_cons, sapp_nil, Sto.sne _ _ _ _ (by simpa using hj)]
theorem Yc.len {m : Sto} {B : V} {cl : List C} {fs : List V} {a : Nat} (h : Yc m B cl fs a) : lenSl B = some cl.length := by
  rcases h with ⟨rfl, rfl, rfl⟩ | ⟨rfl, _⟩ <;> rfl
theorem Yc.stor {m : Sto} {B : V} {cl : List C} {fs : List V} {a : Nat} (h : Yc m B cl fs a) : B.stor = true := by
  rcases h with ⟨rfl, rfl, rfl⟩ | ⟨rfl, _⟩ <;> rfl
theorem Yc.cells {m : Sto} {B : V} {cl : List C} {fs : List V} {a : Nat} (h : Yc m B cl fs a) : B.cells = [B] := by
  rcases h with ⟨rfl, rfl, rfl⟩ | ⟨rfl, _⟩ <;> rfl
theorem Yc.xc {m : Sto} {B : V} {cl : List C} {fs : List V} {a lo x : Nat} (h : Yc m B cl fs a) (h1 : lo ≤ a) (h2 : a < x) (hf : Fr (fun j => lo ≤ j ∧ j < x ∧ j ≠ a) m fs cl) : Xc m B cl fs lo x := by
  rcases h with h | ⟨h3, h4⟩
  · exact .inl h
  · exact .inr ⟨a, h3, h4, h1, h2, hf⟩
theorem Yc.over {m : Sto} {B : V} {cl : List C} {fs : List V} {a x : Nat} (h : Yc m B cl fs a) (hx : x ≤ a) : B.over x = true := by
  rcases h with ⟨rfl, _, _⟩ | ⟨rfl, _⟩
  · rfl
  · simp [V.over, hx]
theorem ap_of {m : Sto} {k n : Nat} {B : V} (h : lenSl B = some n) : apCells m k B = slCells m k B := by
  cases B <;> first | rfl | cases h
theorem lenV_of {m : Sto} {n : Nat} {B : V} (h : lenSl B = some n) : lenV m B = some n := by
  cases B <;> first | exact h | cases h
theorem aft_out {w : V} {m : Sto} {ids : List Nat} {j : Nat} (h : j ∉ ids) : aft w m ids j = m j := by
  unfold aft
  split
  · rfl
  · rw [markRo_at, if_neg h]
/-- A list of clauses in memory of its own: its places. -/
def Xa (A : Nat → Prop) (m : Sto) (B : V) (cl : List C) (fs : List V) : Prop :=
  (B = .ns ∧ cl = [] ∧ fs = []) ∨ ∃ a, B = .ms a 0 cl.length 3 ∧ m a = some (.cells (trips fs cl) false) ∧ A a ∧ Fr (fun j => A j ∧ j ≠ a) m fs cl
theorem Xc.xa {m : Sto} {B : V} {cl : List C} {fs : List V} {lo x : Nat} (h : Xc m B cl fs lo x) : Xa (fun j => lo ≤ j ∧ j < x) m B cl fs := by
  rcases h with h | ⟨a, h1, h2, h3, h4, h5⟩
  · exact .inl h
  · exact .inr ⟨a, h1, h2, ⟨h3, h4⟩, h5.up (.refl _ _) (fun j hj => ⟨⟨hj.1, hj.2.1⟩, hj.2.2⟩)⟩
theorem Xa.up {A A' : Nat → Prop} {m m' : Sto} {B : V} {cl : List C} {fs : List V} (h : Xa A m B cl fs) (hm : ∀ j, A j → m' j = m j) (hA : ∀ j, A j → A' j) : Xa A' m' B cl fs := by
  rcases h with h | ⟨a, h1, h2, h3, h5⟩
  · exact .inl h
  · exact .inr ⟨a, h1, by rw [hm a h3, h2], hA a h3, h5.up (.eq fun j hj => hm j hj.1) (fun j hj => ⟨hA j hj.1, hj.2⟩)⟩
theorem Xa.rc {A : Nat → Prop} {m : Sto} {B : V} {cl : List C} {fs : List V} (h : Xa A m B cl fs) : Rc A m B cl fs := by
  rcases h with ⟨rfl, rfl, rfl⟩ | ⟨a, rfl, h2, h3, h5⟩
  · exact ⟨fun m' _ => rfl, trivial, fun m' _ n => ⟨_, frzW_ns _, fun i h => by cases h⟩, rfl, rfl, rfl⟩
  · have hl := trips_len h5.len
    refine ⟨fun m' hm => ?_, h5.up (.refl _ _) (fun j hj => hj.1), fun m' hm n => ?_, rfl, rfl, rfl⟩
    · have hb := hm a h3
      rw [h2] at hb
      rw [slCells_ms, slO_bare, hb, ← slO_bare, slO_cells, if_pos ⟨rfl, by rw [Nat.zero_add, hl]; exact Nat.le_refl _⟩, List.drop_zero, List.take_of_length_le (by rw [hl]; exact Nat.le_refl _)]
    · have hb := hm a h3
      rw [h2] at hb
      obtain ⟨ids, e2, e3⟩ := h5.fz (m' := m') (hm.mono fun j hj => hj.1) n
      refine ⟨a :: ids, ?_, fun i hi => ?_⟩
      rotate_left
      · rcases List.mem_cons.1 hi with rfl | hi
        · exact h3
        · exact (e3 i hi).1
      rw [frzW_ms, der_s, derO_bare, hb, ← derO_bare, derO_cells, e2]
      simp only [Option.bind_some, true_and, List.drop_zero, Nat.zero_add]
      rw [if_pos (by rw [flat_len]; exact Nat.le_refl _), List.take_of_length_le (by rw [flat_len]; exact Nat.le_refl _)]
      rfl
/-- Clauses more. -/
theorem Xa.ap {A G : Nat → Prop} {m : Sto} {B : V} {cl dl : List C} {fs gs : List V} {slot n : Nat} {K : V → Ws → Prop} {xs : List V} (h : Xa A m B cl fs) (hxs : xs = trips gs dl) (hn : n = dl.length) (hg : Fr G m gs dl) (hAG : ∀ j, A j → ¬ G j) (hsA : ¬ A slot) (hsG : ¬ G slot) (hl : cl.length + dl.length ≤ 2147483648)
    (hK : ∀ B' ws m2, m.app ws = m2 → Xa (fun j => A j ∨ G j ∨ j = slot) m2 B' (cl ++ dl) (fs ++ gs) → (∀ j, ¬ A j → j ≠ slot → m2 j = m j) → K B' ws) : opK (apV m 3 B xs n slot) K := by
  subst hn hxs
  have hgl := trips_len hg.len
  rcases h with ⟨rfl, rfl, rfl⟩ | ⟨a, rfl, h2, h3, h5⟩
  · by_cases h0 : dl.length = 0
    · obtain ⟨rfl, rfl⟩ := hg.nil h0
      rw [apV_ns, if_pos (by rfl)]
      exact hK _ _ _ rfl (.inl ⟨rfl, rfl, rfl⟩) (fun _ _ _ => rfl)
    · have hB : dl.length ≤ BIG := by unfold BIG; simp at hl; omega
      rw [apV_ns, if_neg h0, if_pos hB]
      have far : ∀ j, j ≠ slot → (m.app [(slot, some (.cells (trips gs dl) false))]) j = m j := by
        intro j q
        rw [sapp_cons, sapp_nil, Sto.sne _ _ _ _ q]
      refine hK _ _ _ rfl (.inr ⟨slot, by simp, by rw [sapp_cons, sapp_nil, Sto.seq]; rfl, .inr (.inr rfl), ?_⟩) (fun j _ hj => far j hj)
      exact hg.up (.eq fun j hj => far j (fun e => hsG (e ▸ hj))) (fun j hj => ⟨.inr (.inl hj), fun e => hsG (e ▸ hj)⟩)
  · have hfl := trips_len h5.len
    by_cases h0 : dl.length = 0
    · obtain ⟨rfl, rfl⟩ := hg.nil h0
      rw [apV_ms, if_pos (by rfl)]
      refine hK _ _ _ rfl (.inr ⟨a, by simp, by rw [sapp_nil, h2]; simp, .inl h3, ?_⟩) (fun _ _ _ => rfl)
      rw [List.append_nil, List.append_nil]
      exact h5.up (.refl _ _) (fun j hj => ⟨.inl hj.1, hj.2⟩)
    · have hB : cl.length + dl.length ≤ BIG := by unfold BIG; omega
      rw [apV_ms, if_neg h0, h2, apO_cells, if_pos ⟨rfl, by rw [hfl]; exact Nat.le_refl _, hB⟩, List.take_of_length_le (by rw [hfl]; exact Nat.le_refl _)]
      have far : ∀ j, j ≠ a → j ≠ slot → (m.app [(a, none), (slot, some (.cells (trips fs cl ++ trips gs dl) false))]) j = m j := by
        intro j q1 q2
        rw [sapp_cons, sapp_cons, sapp_nil, Sto.sne _ _ _ _ q2, Sto.sne _ _ _ _ q1]
      refine hK _ _ _ rfl (.inr ⟨slot, by simp, by rw [sapp_cons, sapp_cons, sapp_nil, Sto.seq, trips_app h5.len], .inr (.inr rfl), Fr.app ?_ ?_⟩) (fun j h1 h2 => far j (fun e => h1 (e ▸ h3)) h2)
      · exact h5.up (.eq fun j hj => far j hj.2 (fun e => hsA (e ▸ hj.1))) (fun j hj => ⟨.inl hj.1, fun e => hsA (e ▸ hj.1)⟩)
      · exact hg.up (.eq fun j hj => far j (fun e => hAG a h3 (e ▸ hj)) (fun e => hsG (e ▸ hj))) (fun j hj => ⟨.inr (.inl hj), fun e => hsG (e ▸ hj)⟩)
end Pi
