/- Levels, atoms, clauses: how they fill cells. -/
import Derived.Test.YtbkkigmlkafeiaaFw4
import Derived.Test.YtbkkigmlkafeiaaFw3
set_option linter.unusedSimpArgs false
set_option linter.unusedVariables false
namespace Pi

inductive L where
  | mk (kind n : Int) (kids : List L)
  deriving Inhabited
def L.kind : L → Int | .mk k _ _ => k
def L.n : L → Int | .mk _ n _ => n
def L.kids : L → List L | .mk _ _ ks => ks
@[simp] theorem L.kind_mk (k n : Int) (ks : List L) : (L.mk k n ks).kind = k := rfl
@[simp] theorem L.n_mk (k n : Int) (ks : List L) : (L.mk k n ks).n = n := rfl
@[simp] theorem L.kids_mk (k n : Int) (ks : List L) : (L.mk k n ks).kids = ks := rfl
theorem L.size_kid {l k : L} (h : k ∈ l.kids) : sizeOf k < sizeOf l := by
  cases l with
  | mk a n ks =>
    simp only [L.kids] at h
    have := List.sizeOf_lt_of_mem h
    simp only [L.mk.sizeOf_spec]
    omega
theorem L.ind {P : L → Prop} (h : ∀ l : L, (∀ k ∈ l.kids, P k) → P l) (l : L) : P l := by
  have : ∀ n, ∀ l : L, sizeOf l < n → P l := by
    intro n
    induction n with
    | zero => intro l hl; omega
    | succ n ih => intro l hl; exact h l fun k hk => ih k (by have := L.size_kid hk; omega)
  exact this (sizeOf l + 1) l (by omega)

mutual
def cL : L → List V
  | .mk k n ks => [.i .i64 k, .i .i64 n, .sl (cLs ks) ks.length]
def cLs : List L → List V
  | [] => []
  | a :: r => cL a ++ cLs r
end
theorem cLs_eq : ∀ l : List L, cLs l = l.flatMap cL
  | [] => by simp [cLs]
  | a :: r => by simp [cLs, cLs_eq r]
theorem cL_at (l : L) : cL l = [.i .i64 l.kind, .i .i64 l.n, sV cL l.kids] := by
  cases l with
  | mk k n ks => simp [cL, sV, cLs_eq, L.kids]
theorem cL_len (l : L) : (cL l).length = 3 := by rw [cL_at]; rfl
@[simp] theorem nsy_sV {α : Type} (f : α → List V) (l : List α) : (sV f l).nsy = false := rfl
theorem cL_fz (l : L) (D : Nat → Option (Bool × List V × List V × List Nat)) : frzL D (cL l) = some (cL l, []) := by rw [cL_at]; simp
attribute [simp] cL_len cL_fz
instance : Cel cL 3 := ⟨cL_len, by decide, cL_fz⟩
@[simp] theorem cL_0 (l : L) : (cL l)[0]? = some (.i .i64 l.kind) := by rw [cL_at]; rfl
@[simp] theorem cL_1 (l : L) : (cL l)[1]? = some (.i .i64 l.n) := by rw [cL_at]; rfl
@[simp] theorem cL_2 (l : L) : (cL l)[2]? = some (sV cL l.kids) := by rw [cL_at]; rfl
@[simp] theorem cL_take (l : L) : (cL l).take 3 = cL l := List.take_of_length_le (by simp)
@[simp] theorem cL_mk0 (k n : Int) : [V.i .i64 k, .i .i64 n, .sl [] 0] = cL (.mk k n []) := by rw [cL_at]; rfl
@[simp] theorem cL_mk1 (k n : Int) (a : L) : [V.i .i64 k, .i .i64 n, .sl (cL a) 1] = cL (.mk k n [a]) := by rw [cL_at (.mk k n [a])]; simp [sV]
@[simp] theorem cL_mk2 (k n : Int) (a b : L) : [V.i .i64 k, .i .i64 n, .sl (cL a ++ cL b) 2] = cL (.mk k n [a, b]) := by rw [cL_at (.mk k n [a, b])]; simp [sV]

/-- A level whose lists are no longer than memory lets them be, its numbers as they come. -/
inductive L.Ok : L → Prop
  | mk {k n : Int} {ks : List L} : ks.length ≤ 9223372036854775807 → (-9223372036854775808 ≤ k ∧ k < 9223372036854775808) → (-9223372036854775808 ≤ n ∧ n < 9223372036854775808) → (∀ x ∈ ks, L.Ok x) → L.Ok (.mk k n ks)
theorem L.Ok.len {l : L} (h : l.Ok) : l.kids.length ≤ 9223372036854775807 := by cases h; assumption
theorem L.Ok.kid {l : L} (h : l.Ok) {k : L} (hk : k ∈ l.kids) : k.Ok := by cases h with | mk _ _ _ h => exact h k hk
theorem L.Ok.at {l : L} (h : l.Ok) {i : Nat} (hi : i < l.kids.length) : l.kids[i].Ok := h.kid (List.getElem_mem hi)

theorem fold_inv {α β : Type} {f : β → α → β} {P : β → Prop} {l : List α} (h : ∀ b, ∀ a ∈ l, P b → P (f b a)) {b : β} (hb : P b) : P (l.foldl f b) := by
  induction l generalizing b with
  | nil => exact hb
  | cons a l ih => exact ih (fun b a ha => h b a (by simp [ha])) (h b a (by simp) hb)
theorem take_fold {α β : Type} {f : β → α → β} {l : List α} {b : β} {i : Nat} (h : i < l.length) : (l.take (i + 1)).foldl f b = f ((l.take i).foldl f b) l[i] := by
  rw [List.take_succ_eq_append_getElem h, List.foldl_append]; rfl
end Pi


set_option linter.unusedSimpArgs false
set_option linter.unusedVariables false
namespace Pi
open Go (TypeId Program)
section
variable {P : Program} {n : Nat} {t e : TypeId}
theorem p_u8 (hu : P.underlying e = some (.int .u8)) (m : Nat) (p : List V) (h : Tv P m e p) : ∃ a : Nat, p = cU a ∧ a < 256 := by
  obtain ⟨x, rfl, hw⟩ := tv_int hu h
  have := wf_u8 hw
  exact ⟨x.toNat, by simp [cU]; omega, by omega⟩
theorem a_bytes (hu : P.underlying t = some (.slice e)) (he : P.underlying e = some (.int .u8)) {v : V} (h : TvA P n t v) : ∃ l : List Nat, v = sV cU l ∧ l.length ≤ 9223372036854775807 ∧ Byt l := by
  obtain ⟨l, h1, h2, h3⟩ := a_sl hu (p_u8 he) h
  exact ⟨l, h1, by omega, h3⟩
/-- Levels. -/
theorem p_L {tI tS : TypeId} {fs : Array Go.Field} (hu : P.underlying t = some (.struct fs)) (hf : fs.toList.map (·.type) = [tI, tI, tS]) (hI : P.underlying tI = some (.int .i64)) (hS : P.underlying tS = some (.slice t))
    (m : Nat) : ∀ (p : List V), Tv P m t p → ∃ a : L, p = cL a ∧ a.Ok := by
  induction m using Nat.strongRecOn with
  | ind m ih =>
    intro p h
    obtain ⟨k, rfl, q⟩ := tv_st hu h
    rw [hf, TvF_cons] at q
    obtain ⟨p1, r1, rfl, _, h1, q⟩ := q
    rw [TvF_cons] at q
    obtain ⟨p2, r2, rfl, _, h2, q⟩ := q
    rw [TvF_cons] at q
    obtain ⟨p3, r3, rfl, _, h3, q⟩ := q
    rw [TvF_nil] at q
    subst q
    obtain ⟨x, rfl, hx⟩ := tv_int hI h1
    obtain ⟨y, rfl, hy⟩ := tv_int hI h2
    obtain ⟨l, rfl, hl, hQ⟩ := tv_sl hS (fun m p hp hm => ih m (by omega) p hp) h3
    refine ⟨.mk x y l, ?_, .mk (by omega) (wf_i64 hx) (wf_i64 hy) hQ⟩
    rw [cL_at]
    rfl
end
end Pi


set_option linter.unusedSimpArgs false
set_option linter.unusedVariables false
namespace Pi
inductive Tm where
  | mk (kind n : Int) (lvls : List L) (kids : List Tm)
def Tm.kind : Tm → Int | .mk k _ _ _ => k
def Tm.n : Tm → Int | .mk _ n _ _ => n
def Tm.lvls : Tm → List L | .mk _ _ ls _ => ls
def Tm.kids : Tm → List Tm | .mk _ _ _ ks => ks
@[simp] theorem Tm.kind_mk (k n : Int) (ls : List L) (ks : List Tm) : (Tm.mk k n ls ks).kind = k := rfl
@[simp] theorem Tm.n_mk (k n : Int) (ls : List L) (ks : List Tm) : (Tm.mk k n ls ks).n = n := rfl
@[simp] theorem Tm.lvls_mk (k n : Int) (ls : List L) (ks : List Tm) : (Tm.mk k n ls ks).lvls = ls := rfl
@[simp] theorem Tm.kids_mk (k n : Int) (ls : List L) (ks : List Tm) : (Tm.mk k n ls ks).kids = ks := rfl
theorem Tm.size_kid {l k : Tm} (h : k ∈ l.kids) : sizeOf k < sizeOf l := by
  cases l with
  | mk a n ls ks =>
    simp only [Tm.kids] at h
    have := List.sizeOf_lt_of_mem h
    simp only [Tm.mk.sizeOf_spec]
    omega
theorem Tm.ind {P : Tm → Prop} (h : ∀ l : Tm, (∀ k ∈ l.kids, P k) → P l) (l : Tm) : P l := by
  have : ∀ n, ∀ l : Tm, sizeOf l < n → P l := by
    intro n
    induction n with
    | zero => intro l hl; omega
    | succ n ih => intro l hl; exact h l fun k hk => ih k (by have := Tm.size_kid hk; omega)
  exact this (sizeOf l + 1) l (by omega)
mutual
def cT : Tm → List V
  | .mk k n ls ks => [.i .i64 k, .i .i64 n, sV cL ls, .sl (cTs ks) ks.length]
def cTs : List Tm → List V
  | [] => []
  | a :: r => cT a ++ cTs r
end
theorem cTs_eq : ∀ l : List Tm, cTs l = l.flatMap cT
  | [] => by simp [cTs]
  | a :: r => by simp [cTs, cTs_eq r]
theorem cT_at (l : Tm) : cT l = [.i .i64 l.kind, .i .i64 l.n, sV cL l.lvls, sV cT l.kids] := by
  cases l with
  | mk k n ls ks => simp [cT, sV, cTs_eq, Tm.kids]
theorem cT_len (l : Tm) : (cT l).length = 4 := by rw [cT_at]; rfl
theorem cT_fz (l : Tm) (D : Nat → Option (Bool × List V × List V × List Nat)) : frzL D (cT l) = some (cT l, []) := by rw [cT_at]; simp
attribute [simp] cT_len cT_fz
instance : Cel cT 4 := ⟨cT_len, by decide, cT_fz⟩
@[simp] theorem cT_0 (l : Tm) : (cT l)[0]? = some (.i .i64 l.kind) := by rw [cT_at]; rfl
@[simp] theorem cT_1 (l : Tm) : (cT l)[1]? = some (.i .i64 l.n) := by rw [cT_at]; rfl
@[simp] theorem cT_2 (l : Tm) : (cT l)[2]? = some (sV cL l.lvls) := by rw [cT_at]; rfl
@[simp] theorem cT_3 (l : Tm) : (cT l)[3]? = some (sV cT l.kids) := by rw [cT_at]; rfl
@[simp] theorem cT_take (l : Tm) : (cT l).take 4 = cT l := List.take_of_length_le (by simp)
/-- A term whose lists are no longer than memory lets them be, its numbers as they come. -/
inductive Tm.Ok : Tm → Prop
  | mk {k n : Int} {ls : List L} {ks : List Tm} : ls.length ≤ 9223372036854775807 → ks.length ≤ 9223372036854775807 → (-9223372036854775808 ≤ k ∧ k < 9223372036854775808) → (-9223372036854775808 ≤ n ∧ n < 9223372036854775808) → (∀ x ∈ ls, L.Ok x) → (∀ x ∈ ks, Tm.Ok x) → Tm.Ok (.mk k n ls ks)
theorem Tm.Ok.llen {l : Tm} (h : l.Ok) : l.lvls.length ≤ 9223372036854775807 := by cases h; assumption
theorem Tm.Ok.len {l : Tm} (h : l.Ok) : l.kids.length ≤ 9223372036854775807 := by cases h; assumption
theorem Tm.Ok.lvl {l : Tm} (h : l.Ok) {k : L} (hk : k ∈ l.lvls) : k.Ok := by cases h with | mk _ _ _ _ h _ => exact h k hk
theorem Tm.Ok.kid {l : Tm} (h : l.Ok) {k : Tm} (hk : k ∈ l.kids) : k.Ok := by cases h with | mk _ _ _ _ _ h => exact h k hk
theorem Tm.Ok.lat {l : Tm} (h : l.Ok) {i : Nat} (hi : i < l.lvls.length) : l.lvls[i].Ok := h.lvl (List.getElem_mem hi)
theorem Tm.Ok.at {l : Tm} (h : l.Ok) {i : Nat} (hi : i < l.kids.length) : l.kids[i].Ok := h.kid (List.getElem_mem hi)
end Pi

