/- Levels, atoms, clauses: how they fill cells. -/
import Derived.Test.YtglabbjideniaaaGreatFw4
import Derived.Test.YtglabbjideniaaaGreatFw3
import Derived.Test.YtglabbjideniaaaGreatProg
import Derived.KernelRfl
set_option linter.unusedSimpArgs false
set_option linter.unusedVariables false
namespace Pi

inductive L where
  | mk (kind n : Int) (kids : List L)
  deriving Inhabited
def L.kind : L → Int | .mk k _ _ => k
def L.n : L → Int | .mk _ n _ => n
def L.kids : L → List L | .mk _ _ ks => ks
@[simp] theorem L.kind_mk (k n : Int) (ks : List L) : (L.mk k n ks).kind = k := rfl
@[simp] theorem L.n_mk (k n : Int) (ks : List L) : (L.mk k n ks).n = n := rfl
@[simp] theorem L.kids_mk (k n : Int) (ks : List L) : (L.mk k n ks).kids = ks := rfl
theorem L.size_kid {l k : L} (h : k ∈ l.kids) : sizeOf k < sizeOf l := by
  cases l with
  | mk a n ks =>
    simp only [L.kids] at h
    have := List.sizeOf_lt_of_mem h
    simp only [L.mk.sizeOf_spec]
    omega
theorem L.ind {P : L → Prop} (h : ∀ l : L, (∀ k ∈ l.kids, P k) → P l) (l : L) : P l := by
  have : ∀ n, ∀ l : L, sizeOf l < n → P l := by
    intro n
    induction n with
    | zero => intro l hl; omega
    | succ n ih => intro l hl; exact h l fun k hk => ih k (by have := L.size_kid hk; omega)
  exact this (sizeOf l + 1) l (by omega)

mutual
def cL : L → List V
  | .mk k n ks => [.i .i64 k, .i .i64 n, .sl (cLs ks) ks.length]
def cLs : List L → List V
  | [] => []
  | a :: r => cL a ++ cLs r
end
theorem cLs_eq : ∀ l : List L, cLs l = l.flatMap cL
  | [] => by simp [cLs]
  | a :: r => by simp [cLs, cLs_eq r]
theorem cL_at (l : L) : cL l = [.i .i64 l.kind, .i .i64 l.n, sV cL l.kids] := by
  cases l with
  | mk k n ks => simp [cL, sV, cLs_eq, L.kids]
theorem cL_len (l : L) : (cL l).length = 3 := by rw [cL_at]; rfl
@[simp] theorem nsy_cL (l : L) : nsyL (cL l) = false := by rw [cL_at]; rfl
@[simp] theorem nsy_sV {α : Type} (f : α → List V) (l : List α) : (sV f l).nsy = false := rfl
theorem cL_fz (l : L) (D : Nat → Option (Bool × List V × List V × List Nat)) : frzL D (cL l) = some (cL l, []) := by rw [cL_at]; simp
attribute [simp] cL_len cL_fz
instance : Cel cL 3 := ⟨cL_len, by decide, cL_fz⟩
@[simp] theorem cL_0 (l : L) : (cL l)[0]? = some (.i .i64 l.kind) := by rw [cL_at]; rfl
@[simp] theorem cL_1 (l : L) : (cL l)[1]? = some (.i .i64 l.n) := by rw [cL_at]; rfl
@[simp] theorem cL_2 (l : L) : (cL l)[2]? = some (sV cL l.kids) := by rw [cL_at]; rfl
@[simp] theorem cL_take (l : L) : (cL l).take 3 = cL l := List.take_of_length_le (by simp)
@[simp] theorem cL_mk0 (k n : Int) : [V.i .i64 k, .i .i64 n, .sl [] 0] = cL (.mk k n []) := by rw [cL_at]; rfl
@[simp] theorem cL_mk1 (k n : Int) (a : L) : [V.i .i64 k, .i .i64 n, .sl (cL a) 1] = cL (.mk k n [a]) := by rw [cL_at (.mk k n [a])]; simp [sV]
@[simp] theorem cL_mk2 (k n : Int) (a b : L) : [V.i .i64 k, .i .i64 n, .sl (cL a ++ cL b) 2] = cL (.mk k n [a, b]) := by rw [cL_at (.mk k n [a, b])]; simp [sV]

/-- A level whose lists are no longer than memory lets them be, its numbers as they come. -/
inductive L.Ok : L → Prop
  | mk {k n : Int} {ks : List L} : ks.length ≤ 9223372036854775807 → (-9223372036854775808 ≤ k ∧ k < 9223372036854775808) → (-9223372036854775808 ≤ n ∧ n < 9223372036854775808) → (∀ x ∈ ks, L.Ok x) → L.Ok (.mk k n ks)
theorem L.Ok.len {l : L} (h : l.Ok) : l.kids.length ≤ 9223372036854775807 := by cases h; assumption
theorem L.Ok.kid {l : L} (h : l.Ok) {k : L} (hk : k ∈ l.kids) : k.Ok := by cases h with | mk _ _ _ h => exact h k hk
theorem L.Ok.at {l : L} (h : l.Ok) {i : Nat} (hi : i < l.kids.length) : l.kids[i].Ok := h.kid (List.getElem_mem hi)

theorem fold_inv {α β : Type} {f : β → α → β} {P : β → Prop} {l : List α} (h : ∀ b, ∀ a ∈ l, P b → P (f b a)) {b : β} (hb : P b) : P (l.foldl f b) := by
  induction l generalizing b with
  | nil => exact hb
  | cons a l ih => exact ih (fun b a ha => h b a (by simp [ha])) (h b a (by simp) hb)
theorem take_fold {α β : Type} {f : β → α → β} {l : List α} {b : β} {i : Nat} (h : i < l.length) : (l.take (i + 1)).foldl f b = f ((l.take i).foldl f b) l[i] := by
  rw [List.take_succ_eq_append_getElem h, List.foldl_append]; rfl
end Pi


set_option linter.unusedSimpArgs false
set_option linter.unusedVariables false
namespace Pi
open Go (TypeId Program)
section
variable {P : Program} {n : Nat} {t e : TypeId}
theorem p_u8 (hu : P.underlying e = some (.int .u8)) (m : Nat) (p : List V) (h : Tv P m e p) : ∃ a : Nat, p = cU a ∧ a < 256 := by
  obtain ⟨x, rfl, hw⟩ := tv_int hu h
  have := wf_u8 hw
  exact ⟨x.toNat, by simp [cU]; omega, by omega⟩
theorem a_bytes (hu : P.underlying t = some (.slice e)) (he : P.underlying e = some (.int .u8)) {v : V} (h : TvA P n t v) : ∃ l : List Nat, v = sV cU l ∧ l.length ≤ 9223372036854775807 ∧ Byt l := by
  obtain ⟨l, h1, h2, h3⟩ := a_sl hu (p_u8 he) h
  exact ⟨l, h1, by omega, h3⟩
end
end Pi


set_option linter.unusedSimpArgs false
set_option linter.unusedVariables false
namespace Pi
structure A where
  var : Int
  off : Int
  deriving Inhabited, DecidableEq
def cA (a : A) : List V := [.i .i64 a.var, .i .i64 a.off]
@[simp] theorem cA_len (a : A) : (cA a).length = 2 := rfl
@[simp] theorem cA_fz (a : A) (D : Nat → Option (Bool × List V × List V × List Nat)) : frzL D (cA a) = some (cA a, []) := by simp [cA]
instance : Cel cA 2 := ⟨cA_len, by decide, cA_fz⟩
@[simp] theorem cA_0 (a : A) : (cA a)[0]? = some (.i .i64 a.var) := rfl
@[simp] theorem cA_1 (a : A) : (cA a)[1]? = some (.i .i64 a.off) := rfl
@[simp] theorem cA_take (a : A) : (cA a).take 2 = cA a := rfl
@[simp] theorem cA_drop (a : A) : (cA a).drop 2 = [] := rfl
structure C where
  frm : List A
  to : A
  deriving Inhabited, DecidableEq
def cC (c : C) : List V := [sV cA c.frm, .i .i64 c.to.var, .i .i64 c.to.off]
@[simp] theorem cC_len (c : C) : (cC c).length = 3 := rfl
@[simp] theorem cC_fz (c : C) (D : Nat → Option (Bool × List V × List V × List Nat)) : frzL D (cC c) = some (cC c, []) := by simp [cC]
instance : Cel cC 3 := ⟨cC_len, by decide, cC_fz⟩
@[simp] theorem cC_0 (c : C) : (cC c)[0]? = some (sV cA c.frm) := rfl
@[simp] theorem cC_1 (c : C) : (cC c)[1]? = some (.i .i64 c.to.var) := rfl
@[simp] theorem cC_2 (c : C) : (cC c)[2]? = some (.i .i64 c.to.off) := rfl
@[simp] theorem cC_take (c : C) : (cC c).take 3 = cC c := rfl
@[simp] theorem cC_drop (c : C) : (cC c).drop 3 = [] := rfl
@[simp] theorem cC_tail (c : C) : (cC c).tail = cA c.to := rfl
@[simp] theorem cA_drop0 (a : A) : (cA a).tail = [.i .i64 a.off] := rfl
end Pi


set_option linter.unusedSimpArgs false
set_option linter.unusedVariables false
namespace Pi
/-- Stores that are alike at some places, but for what may be written to. -/
def Ag (A : Nat → Prop) (m m' : Sto) : Prop := ∀ j, A j → bare (m' j) = bare (m j)
theorem Ag.refl (A : Nat → Prop) (m : Sto) : Ag A m m := fun _ _ => rfl
theorem Ag.trans {A : Nat → Prop} {m m' m2 : Sto} (h : Ag A m m') (k : Ag A m' m2) : Ag A m m2 := fun j hj => (k j hj).trans (h j hj)
theorem Ag.mono {A B : Nat → Prop} {m m' : Sto} (h : Ag A m m') (k : ∀ j, B j → A j) : Ag B m m' := fun j hj => h j (k j hj)
theorem Ag.eq {A : Nat → Prop} {m m' : Sto} (h : ∀ j, A j → m' j = m j) : Ag A m m' := fun j hj => by rw [h j hj]
theorem slO_bare (o : Option PObj) (esz off len esz' : Nat) : slO o esz off len esz' = slO (bare o) esz off len esz' := by
  cases o with
  | none => rfl
  | some o => cases o <;> rfl
section
variable {α : Type} {f : α → List V} {k : Nat}
/-- A value that reads as a list, where a store is alike at some places. -/
structure Rl (A : Nat → Prop) (m : Sto) (f : α → List V) (k : Nat) (B : V) (l : List α) : Prop where
  sl : ∀ m', Ag A m m' → slCells m' k B = some (l.flatMap f)
  fz : ∀ m', Ag A m m' → ∀ n, ∃ ids, frzW (der m' (n + 1)) B = some (sV f l, ids) ∧ ∀ i ∈ ids, A i
  len : lenSl B = some l.length
  stor : B.stor = true
  cells : B.cells = [B]
theorem Rl.up {A : Nat → Prop} {m m' : Sto} {B : V} {l : List α} (h : Rl A m f k B l) (hm : Ag A m m') : Rl A m' f k B l :=
  ⟨fun m2 h2 => h.sl m2 (hm.trans h2), fun m2 h2 => h.fz m2 (hm.trans h2), h.len, h.stor, h.cells⟩
theorem Rl.mono {A A' : Nat → Prop} {m : Sto} {B : V} {l : List α} (h : Rl A m f k B l) (hA : ∀ j, A j → A' j) : Rl A' m f k B l :=
  ⟨fun m2 h2 => h.sl m2 (h2.mono hA), fun m2 h2 n => let ⟨ids, e, hi⟩ := h.fz m2 (h2.mono hA) n; ⟨ids, e, fun i h => hA i (hi i h)⟩, h.len, h.stor, h.cells⟩
theorem Rl.sV [h : Cel f k] (A : Nat → Prop) (m : Sto) (l : List α) : Rl A m f k (sV f l) l :=
  ⟨fun m' _ => slCells_sV m' l, fun m' _ n => ⟨[], by simp [Pi.sV], fun i h => by cases h⟩, rfl, rfl, rfl⟩
theorem Rl.Bf [h : Cel f k] {m : Sto} {B : V} {l : List α} {lo x : Nat} (hB : Bf m B f k l lo x) : Rl (fun j => lo ≤ j ∧ j < x) m f k B l := by
  refine ⟨fun m' hm => ?_, fun m' hm n => ?_, hB.len, hB.stor, hB.cells⟩
  · rcases hB with ⟨rfl, rfl⟩ | ⟨a, cs, rfl, h2, hR, h3, h4⟩
    · rfl
    · have hb := hm a ⟨h3, h4⟩
      rw [h2] at hb
      rw [slCells_ms, slO_bare, hb, ← slO_bare, slO_cells, if_pos ⟨rfl, by rw [Nat.zero_add]; exact hR.le⟩, List.drop_zero, hR.eq]
  · rcases hB with ⟨rfl, rfl⟩ | ⟨a, cs, rfl, h2, hR, h3, h4⟩
    · exact ⟨_, frzW_ns _, fun i h => by cases h⟩
    · have hb := hm a ⟨h3, h4⟩
      rw [h2] at hb
      refine ⟨[a], ?_, fun i hi => by rw [List.mem_singleton.1 hi]; exact ⟨h3, h4⟩⟩
      rw [frzW_ms, der_s, derO_bare, hb, ← derO_bare, derO_cells, hR.fz]
      simp only [Option.bind_some, true_and, List.drop_zero, Nat.zero_add]
      rw [if_pos hR.le, hR.eq]
      rfl
end
/-- A clause's cells, with its list. -/
def trip (F : V) (c : C) : List V := [F, .i .i64 c.to.var, .i .i64 c.to.off]
def trips : List V → List C → List V
  | F :: fs, c :: cl => trip F c ++ trips fs cl
  | _, _ => []
/-- The lists read as the clauses' lists. -/
def Fr (A : Nat → Prop) (m : Sto) : List V → List C → Prop
  | [], [] => True
  | F :: fs, c :: cl => Rl A m cA 2 F c.frm ∧ Fr A m fs cl
  | _, _ => False
theorem Fr.len {A : Nat → Prop} {m : Sto} : ∀ {fs : List V} {cl : List C}, Fr A m fs cl → fs.length = cl.length
  | [], [], _ => rfl
  | F :: fs, c :: cl, h => by simp [Fr.len h.2]
  | [], _ :: _, h => h.elim
  | _ :: _, [], h => h.elim
theorem Fr.up {A A' : Nat → Prop} {m m' : Sto} (hm : Ag A m m') (hA : ∀ j, A j → A' j) : ∀ {fs : List V} {cl : List C}, Fr A m fs cl → Fr A' m' fs cl
  | [], [], _ => trivial
  | F :: fs, c :: cl, h => ⟨(h.1.up hm).mono hA, Fr.up hm hA h.2⟩
  | [], _ :: _, h => h.elim
  | _ :: _, [], h => h.elim
theorem Fr.app {A : Nat → Prop} {m : Sto} : ∀ {fs gs : List V} {cl dl : List C}, Fr A m fs cl → Fr A m gs dl → Fr A m (fs ++ gs) (cl ++ dl)
  | [], _, [], _, _, k => k
  | F :: fs, _, c :: cl, _, h, k => ⟨h.1, Fr.app h.2 k⟩
  | [], _, _ :: _, _, h, _ => h.elim
  | _ :: _, _, [], _, h, _ => h.elim
theorem Fr.sv (A : Nat → Prop) (m : Sto) : ∀ cl : List C, Fr A m (cl.map fun c => sV cA c.frm) cl
  | [] => trivial
  | c :: cl => ⟨Rl.sV A m c.frm, Fr.sv A m cl⟩
theorem trips_sv : ∀ cl : List C, trips (cl.map fun c => sV cA c.frm) cl = cl.flatMap cC
  | [] => rfl
  | c :: cl => by
    rw [List.map_cons, List.flatMap_cons, trips, trips_sv cl]
    rfl
theorem trips_len : ∀ {fs : List V} {cl : List C}, fs.length = cl.length → (trips fs cl).length = cl.length * 3
  | [], [], _ => rfl
  | F :: fs, c :: cl, h => by
    rw [trips, List.length_append, trips_len (by simpa using h)]
    simp [trip]
    omega
  | [], _ :: _, h => by simp at h
  | _ :: _, [], h => by simp at h
theorem trips_app : ∀ {fs gs : List V} {cl dl : List C}, fs.length = cl.length → trips (fs ++ gs) (cl ++ dl) = trips fs cl ++ trips gs dl
  | [], _, [], _, _ => rfl
  | F :: fs, gs, c :: cl, dl, h => by
    rw [List.cons_append, List.cons_append, trips, trips, trips_app (by simpa using h), List.append_assoc]
  | [], _, _ :: _, _, h => by simp at h
  | _ :: _, _, [], _, h => by simp at h
theorem Fr.fz {A : Nat → Prop} {m m' : Sto} (hm : Ag A m m') (n : Nat) : ∀ {fs : List V} {cl : List C}, Fr A m fs cl → ∃ ids, frzL (der m' (n + 1)) (trips fs cl) = some (cl.flatMap cC, ids) ∧ ∀ i ∈ ids, A i
  | [], [], _ => ⟨[], rfl, fun i h => by cases h⟩
  | F :: fs, c :: cl, h => by
    obtain ⟨i1, e1, a1⟩ := h.1.fz m' hm n
    obtain ⟨i2, e2, a2⟩ := Fr.fz hm n h.2
    refine ⟨i1 ++ i2, ?_, fun i hi => (List.mem_append.1 hi).elim (a1 i) (a2 i)⟩
    simp only [trips, trip, List.cons_append, List.nil_append, frzL_cons, e1, e2, List.flatMap_cons, cC]
    simp
  | [], _ :: _, h => h.elim
  | _ :: _, [], h => h.elim
/-- A value that reads as a list of clauses. -/
structure Rc (A : Nat → Prop) (m : Sto) (B : V) (cl : List C) (fs : List V) : Prop where
  sl : ∀ m', Ag A m m' → slCells m' 3 B = some (trips fs cl)
  fr : Fr A m fs cl
  fz : ∀ m', Ag A m m' → ∀ n, ∃ ids, frzW (der m' (n + 2)) B = some (Pi.sV cC cl, ids) ∧ ∀ i ∈ ids, A i
  len : lenSl B = some cl.length
  stor : B.stor = true
  cells : B.cells = [B]
theorem Rc.fz24 {A : Nat → Prop} {m : Sto} {B : V} {cl : List C} {fs : List V} (h : Rc A m B cl fs) : ∃ ids, frzW (der m 40) B = some (Pi.sV cC cl, ids) ∧ ∀ i ∈ ids, A i := h.fz m (.refl _ _) 38
/-- A list of clauses in memory of its own. -/
def Xc (m : Sto) (B : V) (cl : List C) (fs : List V) (lo x : Nat) : Prop :=
  (B = .ns ∧ cl = [] ∧ fs = []) ∨ ∃ a, B = .ms a 0 cl.length 3 ∧ m a = some (.cells (trips fs cl) false) ∧ lo ≤ a ∧ a < x ∧ Fr (fun j => lo ≤ j ∧ j < x ∧ j ≠ a) m fs cl
theorem Xc.nil {m : Sto} {lo x : Nat} : Xc m .ns [] [] lo x := .inl ⟨rfl, rfl, rfl⟩
theorem Xc.rc {m : Sto} {B : V} {cl : List C} {fs : List V} {lo x : Nat} (h : Xc m B cl fs lo x) : Rc (fun j => lo ≤ j ∧ j < x) m B cl fs := by
  rcases h with ⟨rfl, rfl, rfl⟩ | ⟨a, rfl, h2, h3, h4, h5⟩
  · exact ⟨fun m' _ => rfl, trivial, fun m' _ n => ⟨_, frzW_ns _, fun i h => by cases h⟩, rfl, rfl, rfl⟩
  · have hl := trips_len h5.len
    refine ⟨fun m' hm => ?_, h5.up (.refl _ _) (fun j hj => ⟨hj.1, hj.2.1⟩), fun m' hm n => ?_, rfl, rfl, rfl⟩
    · have hb := hm a ⟨h3, h4⟩
      rw [h2] at hb
      rw [slCells_ms, slO_bare, hb, ← slO_bare, slO_cells, if_pos ⟨rfl, by rw [Nat.zero_add, hl]; exact Nat.le_refl _⟩, List.drop_zero, List.take_of_length_le (by rw [hl]; exact Nat.le_refl _)]
    · have hb := hm a ⟨h3, h4⟩
      rw [h2] at hb
      obtain ⟨ids, e2, e3⟩ := h5.fz (m' := m') (hm.mono fun j hj => ⟨hj.1, hj.2.1⟩) n
      refine ⟨a :: ids, ?_, fun i hi => ?_⟩
      rotate_left
      · rcases List.mem_cons.1 hi with rfl | hi
        · exact ⟨h3, h4⟩
        · exact ⟨(e3 i hi).1, (e3 i hi).2.1⟩
      rw [frzW_ms, der_s, derO_bare, hb, ← derO_bare, derO_cells, e2]
      simp only [Option.bind_some, true_and, List.drop_zero, Nat.zero_add]
      rw [if_pos (by rw [flat_len]; exact Nat.le_refl _), List.take_of_length_le (by rw [flat_len]; exact Nat.le_refl _)]
      rfl
theorem Xc.up {m m' : Sto} {B : V} {cl : List C} {fs : List V} {lo lo' x x' : Nat} (h : Xc m B cl fs lo x) (hl : lo' ≤ lo) (hx : x ≤ x') (hm : ∀ j, lo ≤ j → j < x → m' j = m j) : Xc m' B cl fs lo' x' := by
  rcases h with h | ⟨a, h1, h2, h3, h4, h5⟩
  · exact .inl h
  · exact .inr ⟨a, h1, by rw [hm a h3 h4, h2], by omega, by omega, h5.up (.eq fun j hj => hm j hj.1 hj.2.1) (fun j hj => ⟨by omega, by omega, hj.2.2⟩)⟩
theorem Fr.nil {A : Nat → Prop} {m : Sto} {fs : List V} {cl : List C} (h : Fr A m fs cl) (hn : cl.length = 0) : fs = [] ∧ cl = [] := by
  have h1 := h.len
  exact ⟨List.eq_nil_of_length_eq_zero (by omega), List.eq_nil_of_length_eq_zero hn⟩
/-- Clauses more. -/
theorem Xc.ap {m m' : Sto} {B : V} {cl dl : List C} {fs gs : List V} {lo lo1 x slot n : Nat} {K : V → Ws → Prop} {xs : List V} (h : Xc m B cl fs lo1 x) (hm : ∀ j, lo1 ≤ j → j < x → m' j = m j) (hx : x ≤ slot) (hl1 : lo ≤ lo1) (hl2 : lo1 ≤ slot)
    (hxs : xs = trips gs dl) (hn : n = dl.length) (hg : Fr (fun j => lo ≤ j ∧ j < slot ∧ (j < lo1 ∨ x ≤ j)) m' gs dl) (hl : cl.length + dl.length ≤ 2147483648)
    (hK : ∀ B' ws m2, m'.app ws = m2 → Xc m2 B' (cl ++ dl) (fs ++ gs) lo (slot + 1) → (∀ j, j < lo1 → m2 j = m' j) → (∀ j, x ≤ j → j < slot → m2 j = m' j) → K B' ws) : opK (apV m' 3 B xs n slot) K := by
  subst hn hxs
  have hgl := trips_len hg.len
  rcases h with ⟨rfl, rfl, rfl⟩ | ⟨a, rfl, h2, h3, h4, h5⟩
  · by_cases h0 : dl.length = 0
    · obtain ⟨rfl, rfl⟩ := hg.nil h0
      rw [apV_ns, if_pos (by rfl)]
      exact hK _ _ _ rfl Xc.nil (fun _ _ => rfl) (fun _ _ _ => rfl)
    · have hB : dl.length ≤ BIG := by unfold BIG; simp at hl; omega
      rw [apV_ns, if_neg h0, if_pos hB]
      refine hK _ _ _ rfl (.inr ⟨slot, by simp, by rw [sapp_cons, sapp_nil, Sto.seq]; rfl, by omega, by omega, ?_⟩) (fun j hj => ?_) (fun j h1 h2 => ?_)
      · refine hg.up (.eq fun j hj => ?_) (fun j hj => ⟨hj.1, by omega, by omega⟩)
        rw [sapp_cons, sapp_nil, Sto.sne _ _ _ _ (by simp only; omega)]
      · rw [sapp_cons, sapp_nil, Sto.sne _ _ _ _ (by simp only; omega)]
      · rw [sapp_cons, sapp_nil, Sto.sne _ _ _ _ (by simp only; omega)]
  · have hfl := trips_len h5.len
    have ha : m' a = some (.cells (trips fs cl) false) := by rw [hm a h3 h4, h2]
    by_cases h0 : dl.length = 0
    · obtain ⟨rfl, rfl⟩ := hg.nil h0
      rw [apV_ms, if_pos (by rfl)]
      refine hK _ _ _ rfl (.inr ⟨a, by simp, by rw [sapp_nil, ha]; simp, by omega, by omega, ?_⟩) (fun _ _ => rfl) (fun _ _ _ => rfl)
      rw [List.append_nil, List.append_nil]
      exact h5.up (.eq fun j hj => by rw [sapp_nil]; exact hm j hj.1 hj.2.1) (fun j hj => ⟨by omega, by omega, hj.2.2⟩)
    · have hB : cl.length + dl.length ≤ BIG := by unfold BIG; omega
      rw [apV_ms, if_neg h0, ha, apO_cells, if_pos ⟨rfl, by rw [hfl]; exact Nat.le_refl _, hB⟩, List.take_of_length_le (by rw [hfl]; exact Nat.le_refl _)]
      have far : ∀ j, j ≠ a → j ≠ slot → (m'.app [(a, none), (slot, some (.cells (trips fs cl ++ trips gs dl) false))]) j = m' j := by
        intro j q1 q2
        rw [sapp_cons, sapp_cons, sapp_nil, Sto.sne _ _ _ _ q2, Sto.sne _ _ _ _ q1]
      refine hK _ _ _ rfl (.inr ⟨slot, by simp, by rw [sapp_cons, sapp_cons, sapp_nil, Sto.seq, trips_app h5.len], by omega, by omega, ?_⟩) (fun j hj => far j (by omega) (by omega)) (fun j h1 h2 => far j (by omega) (by omega))
      refine Fr.app ?_ ?_
      · exact h5.up (.eq fun j hj => by rw [far j hj.2.2 (by omega)]; exact hm j hj.1 hj.2.1) (fun j hj => ⟨by omega, by omega, by omega⟩)
      · exact hg.up (.eq fun j hj => far j (by omega) (by omega)) (fun j hj => ⟨hj.1, by omega, by omega⟩)
theorem over_app {x : Nat} : ∀ (a b : List V), overL x (a ++ b) = (overL x a && overL x b)
  | [], b => by simp [overL]
  | c :: a, b => by simp [overL, over_app a b, Bool.and_assoc]
theorem over_flat {α : Type} {f : α → List V} {x : Nat} (h : ∀ a, overL x (f a) = true) : ∀ l : List α, overL x (l.flatMap f) = true
  | [] => rfl
  | a :: l => by rw [List.flatMap_cons, over_app, h a, over_flat h l]; rfl
theorem over_cI (x : Nat) (l : List Int) : overL x (l.flatMap cI) = true := over_flat (fun _ => rfl) l
theorem IfK_pos {p a b : Prop} (h : p) : IfK p a b = a := by simp [IfK, h]
end Pi


set_option linter.unusedVariables false
namespace Pi
open Go.Proofs
def idsC : List Nat := List.range' 3 378
def opC : List Nat := [22, 28, 32, 36, 37, 41, 42, 44, 51, 52, 53, 54, 55, 56, 59, 61, 74, 75, 85, 87, 88, 89, 93, 101, 111, 116, 124, 125, 140, 142, 144, 148, 161, 163, 164, 165, 166, 167, 168, 170, 174, 176, 179, 185, 186, 187, 189, 191, 224, 226, 233, 234, 235, 236, 237, 238, 241, 247, 249, 251, 271, 272, 273, 274, 282, 283, 285, 286, 288, 314, 315, 316, 317, 318, 319, 323, 324, 325, 326, 327, 328, 329, 330, 332, 333, 334, 335, 336, 337, 344, 345, 346, 347, 348, 349, 351, 352, 353, 372, 373, 374, 375, 376, 379]
def askE (k : Nat) : P3 := ([(1, 1, 332), (2, 2, 333), (3, 3, 334), (4, 4, 335), (6, 6, 336)] : List P3).getD k (0, 0, 0)
def pmC (f : Nat) : Option (List V → Sto → Nat → Option (V × Ws)) := match f with
  | 48 => some (cloneH 11)
  | 113 => some (cloneH 1)
  | 171 => some (cloneH 6)
  | 362 => some (cloneH 4)
  | 287 => some (constH (.rm (((List.range 5).map askE).map keyV) (((List.range 5).map askE).map fnV)))
  | _ => none
def zL0 : List V := [.i .i64 1, .i .i64 0, .sl [] 0]
def sT0 (l : List V) : List V := [.i .i64 2, .i .i64 0, .sl l 1, .sl [] 0]
def dT0 : List V := .i .i64 0 :: .sl [] 0 :: sT0 [.i .i64 2, .i .i64 0, .sl zL0 1] ++ .b true :: sT0 zL0
def addA : List V := [.sl [] 0, .ag dT0, .ag [.i .i64 9, .i .i64 1]]
def addR : V := .tu [.sl dT0 1, .i .i64 0]
def pmD (f : Nat) : Option (List V → Sto → Nat → Option (V × Ws)) := match f with
  | 48 => some (cloneH 11)
  | 113 => some (cloneH 1)
  | 171 => some (cloneH 6)
  | 362 => some (cloneH 4)
  | 17 => some (tabH addA addR)
  | _ => none
theorem asks_ok : PrimOK Tryz.prog 287 (constH (.rm (((List.range 5).map askE).map keyV) (((List.range 5).map askE).map fnV))) :=
  asks_prim (by kernel_rfl) Tryz.func287 (by decide) rfl ⟨rfl, rfl, rfl⟩ rfl rfl
    (by
      intro i j hi hj
      rcases (by omega : i = 0 ∨ i = 1 ∨ i = 2 ∨ i = 3 ∨ i = 4) with rfl | rfl | rfl | rfl | rfl <;> rcases (by omega : j = 0 ∨ j = 1 ∨ j = 2 ∨ j = 3 ∨ j = 4) with rfl | rfl | rfl | rfl | rfl <;> simp [askE]) rfl
    (by intro i hi; rcases (by omega : i = 0 ∨ i = 1 ∨ i = 2 ∨ i = 3 ∨ i = 4 ∨ i = 5 ∨ i = 6 ∨ i = 7 ∨ i = 8 ∨ i = 9 ∨ i = 10) with rfl | rfl | rfl | rfl | rfl | rfl | rfl | rfl | rfl | rfl | rfl <;> exact ⟨_, rfl, by kernel_rfl⟩)
    (by intro k hk; rcases (by omega : k = 0 ∨ k = 1 ∨ k = 2 ∨ k = 3 ∨ k = 4) with rfl | rfl | rfl | rfl | rfl <;> exact ⟨by kernel_rfl, by kernel_rfl⟩)
    (by kernel_rfl) (by kernel_rfl) rfl ⟨rfl, rfl, rfl⟩ rfl ⟨rfl, rfl, rfl⟩
theorem pmC_ok : ∀ f h, pmC f = some h → PrimOK Tryz.prog f h := by
  intro f h hh
  simp only [pmC] at hh
  split at hh
  · cases hh; exact clone_link (t := 28) (et := 61) Go.Proofs.Tryz.func48 (by decide) ⟨_, _, _, _, _, _, _, _, _, _, _, _, _, rfl, ⟨rfl, rfl, rfl⟩, ⟨rfl, rfl, rfl⟩, ⟨rfl, rfl, rfl⟩, ⟨rfl, rfl, rfl⟩, ⟨rfl, rfl, rfl⟩, ⟨rfl, rfl, rfl⟩, ⟨rfl, rfl, rfl⟩, ⟨rfl, rfl, rfl⟩⟩ rfl rfl Go.Proofs.Tryz.underlying28 (by kernel_rfl) (by decide) (by kernel_rfl)
  · cases hh; exact clone_link (t := 49) (et := 3) Go.Proofs.Tryz.func113 (by decide) ⟨_, _, _, _, _, _, _, _, _, _, _, _, _, rfl, ⟨rfl, rfl, rfl⟩, ⟨rfl, rfl, rfl⟩, ⟨rfl, rfl, rfl⟩, ⟨rfl, rfl, rfl⟩, ⟨rfl, rfl, rfl⟩, ⟨rfl, rfl, rfl⟩, ⟨rfl, rfl, rfl⟩, ⟨rfl, rfl, rfl⟩⟩ rfl rfl Go.Proofs.Tryz.underlying49 (by kernel_rfl) (by decide) (by kernel_rfl)
  · cases hh; exact clone_link (t := 47) (et := 97) Go.Proofs.Tryz.func171 (by decide) ⟨_, _, _, _, _, _, _, _, _, _, _, _, _, rfl, ⟨rfl, rfl, rfl⟩, ⟨rfl, rfl, rfl⟩, ⟨rfl, rfl, rfl⟩, ⟨rfl, rfl, rfl⟩, ⟨rfl, rfl, rfl⟩, ⟨rfl, rfl, rfl⟩, ⟨rfl, rfl, rfl⟩, ⟨rfl, rfl, rfl⟩⟩ rfl rfl Go.Proofs.Tryz.underlying47 (by kernel_rfl) (by decide) (by kernel_rfl)
  · cases hh; exact clone_link (t := 57) (et := 59) Go.Proofs.Tryz.func362 (by decide) ⟨_, _, _, _, _, _, _, _, _, _, _, _, _, rfl, ⟨rfl, rfl, rfl⟩, ⟨rfl, rfl, rfl⟩, ⟨rfl, rfl, rfl⟩, ⟨rfl, rfl, rfl⟩, ⟨rfl, rfl, rfl⟩, ⟨rfl, rfl, rfl⟩, ⟨rfl, rfl, rfl⟩, ⟨rfl, rfl, rfl⟩⟩ rfl rfl Go.Proofs.Tryz.underlying57 (by kernel_rfl) (by decide) (by kernel_rfl)
  · cases hh; exact asks_ok
  · cases hh
set_option maxRecDepth 100000 in
theorem namesC : (idsC.all fun f => match Tryz.prog.funcs[f]? with | some fn => fn.name != "runtime.NumGoroutine" | none => true) = true := by kernel_rfl
set_option maxRecDepth 100000 in
theorem lnkC1 : Lnk Tryz.prog (ctxC Tryz.prog idsC opC [] pmC) := lnkC pmC_ok (by kernel_rfl) namesC
theorem add_t : told (enter (ctxC Tryz.prog idsC opC [] pmC) 3000 17 addA (fun _ => none) 0 none) = some addR := by kernel_rfl
theorem pmD_ok : ∀ f h, pmD f = some h → PrimOK Tryz.prog f h := by
  intro f h hh
  simp only [pmD] at hh
  split at hh
  · cases hh; exact clone_link (t := 28) (et := 61) Go.Proofs.Tryz.func48 (by decide) ⟨_, _, _, _, _, _, _, _, _, _, _, _, _, rfl, ⟨rfl, rfl, rfl⟩, ⟨rfl, rfl, rfl⟩, ⟨rfl, rfl, rfl⟩, ⟨rfl, rfl, rfl⟩, ⟨rfl, rfl, rfl⟩, ⟨rfl, rfl, rfl⟩, ⟨rfl, rfl, rfl⟩, ⟨rfl, rfl, rfl⟩⟩ rfl rfl Go.Proofs.Tryz.underlying28 (by kernel_rfl) (by decide) (by kernel_rfl)
  · cases hh; exact clone_link (t := 49) (et := 3) Go.Proofs.Tryz.func113 (by decide) ⟨_, _, _, _, _, _, _, _, _, _, _, _, _, rfl, ⟨rfl, rfl, rfl⟩, ⟨rfl, rfl, rfl⟩, ⟨rfl, rfl, rfl⟩, ⟨rfl, rfl, rfl⟩, ⟨rfl, rfl, rfl⟩, ⟨rfl, rfl, rfl⟩, ⟨rfl, rfl, rfl⟩, ⟨rfl, rfl, rfl⟩⟩ rfl rfl Go.Proofs.Tryz.underlying49 (by kernel_rfl) (by decide) (by kernel_rfl)
  · cases hh; exact clone_link (t := 47) (et := 97) Go.Proofs.Tryz.func171 (by decide) ⟨_, _, _, _, _, _, _, _, _, _, _, _, _, rfl, ⟨rfl, rfl, rfl⟩, ⟨rfl, rfl, rfl⟩, ⟨rfl, rfl, rfl⟩, ⟨rfl, rfl, rfl⟩, ⟨rfl, rfl, rfl⟩, ⟨rfl, rfl, rfl⟩, ⟨rfl, rfl, rfl⟩, ⟨rfl, rfl, rfl⟩⟩ rfl rfl Go.Proofs.Tryz.underlying47 (by kernel_rfl) (by decide) (by kernel_rfl)
  · cases hh; exact clone_link (t := 57) (et := 59) Go.Proofs.Tryz.func362 (by decide) ⟨_, _, _, _, _, _, _, _, _, _, _, _, _, rfl, ⟨rfl, rfl, rfl⟩, ⟨rfl, rfl, rfl⟩, ⟨rfl, rfl, rfl⟩, ⟨rfl, rfl, rfl⟩, ⟨rfl, rfl, rfl⟩, ⟨rfl, rfl, rfl⟩, ⟨rfl, rfl, rfl⟩, ⟨rfl, rfl, rfl⟩⟩ rfl rfl Go.Proofs.Tryz.underlying57 (by kernel_rfl) (by decide) (by kernel_rfl)
  · cases hh; exact prim_tab lnkC1 add_t
  · cases hh
set_option maxRecDepth 100000 in
theorem lnkC2 : Lnk Tryz.prog (ctxC Tryz.prog idsC opC [] pmD) := lnkC pmD_ok (by kernel_rfl) namesC
theorem alive_t : told (enter (ctxC Tryz.prog idsC opC [] pmD) 3000 6 [] (fun _ => none) 0 none) = some (.b true) := by kernel_rfl
theorem alive_ok : PrimOK Tryz.prog 6 (constH (.b true)) := prim_told lnkC2 alive_t rfl
end Pi

