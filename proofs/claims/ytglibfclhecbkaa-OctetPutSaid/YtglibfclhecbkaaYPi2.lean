/- What a pure value says of a value of the machine; what a pure store says of the machine's memory. -/
import Derived.Test.YtglibfclhecbkaaYPi1
import Derived.Control
import Derived.Laws.Append
import Derived.Laws.World
namespace Pi
open Go (IntKind TypeId FuncId Fn BinOp UnOp LoopState Value Addr World Program undef)

abbrev Rho := Nat → Option (Nat × Nat)
abbrev Ro := Nat → Option Go.Obj

def FR (h : Rho) (f f' : Fn) : Prop :=
  match f with
  | .yield l => ∃ b n, h l = some (b, n) ∧ f' = .yield b
  | f => f' = f

/-- Each of some values fills one cell. -/
def OneL (l : List Value) : Prop := ∀ v ∈ l, v.oneCell' = true

theorem OneL.all {l : List Value} (h : OneL l) (o k : Nat) : OneL ((l.drop o).take k) := fun u hu => h u (List.mem_of_mem_drop (List.mem_of_mem_take hu))
theorem OneL.part {l : List Value} {o k : Nat} (h : OneL ((l.drop o).take k)) {d j : Nat} (hj : j ≤ k - d) : OneL ((l.drop (o + d)).take j) := by
  intro u hu
  refine h u ?_
  have h1 : u ∈ ((l.drop o).take k).drop d := by
    rw [List.drop_take, List.drop_drop]
    rw [show (l.drop (o + d)).take j = ((l.drop (o + d)).take (k - d)).take j by rw [List.take_take, Nat.min_eq_left hj]] at hu
    exact List.mem_of_mem_take hu
  exact List.mem_of_mem_drop h1

mutual
def VR (ro : Ro) : V → Rho → Value → Prop
  | .b x, _, v => v = .bool x
  | .i k n, _, v => v = .int k n
  | .s x, _, v => v = .string x
  | .np, _, v => v = .pointer none
  | .p l off, h, v => ∃ b n, h l = some (b, n) ∧ v = .pointer (some ⟨b, off, none⟩)
  | .rp cs, _, v => ∃ b o arr e f, v = .pointer (some ⟨b, o, none⟩) ∧ ro b = some (.cells arr e f) ∧ OneL ((arr.toList.drop o).take cs.length) ∧ PR ro cs (fun _ => none) (arr.toList.drop o)
  | .ns, _, v => ∃ a, v = .slice a 0 0
  | .sl cs len, _, v => ∃ a cap, v = .slice a len cap ∧ len ≤ cap ∧ ((cs = [] ∧ len = 0) ∨
      ∃ b o arr e f, a = some ⟨b, o, none⟩ ∧ ro b = some (.cells arr e f) ∧ OneL ((arr.toList.drop o).take cs.length) ∧ PR ro cs (fun _ => none) (arr.toList.drop o))
  | .ms l off len esz, h, v => ∃ b n cap, h l = some (b, n) ∧ v = .slice (some ⟨b, off, none⟩) len cap ∧ len ≤ cap ∧ off + cap * esz ≤ n
  | .nm, _, v => v = .map none
  | .mp l, h, v => ∃ b n, h l = some (b, n) ∧ v = .map (some b)
  | .rm ks vs, _, v => (ks = [] ∧ vs = [] ∧ v = .map none) ∨ ∃ b es ck, v = .map (some b) ∧ ro b = some (.map es ck) ∧
      ks.length = es.size ∧ vs.length = es.size ∧ PR ro ks (fun _ => none) (es.toList.map (·.key)) ∧ PR ro vs (fun _ => none) (es.toList.map (·.val))
  | .nf, _, v => v = .nilFunc
  | .fn f a c, h, v => ∃ f' a' c', v = .func f' a' c' ∧ FR h f f' ∧ a.length = a'.size ∧ c.length = c'.size ∧ PR ro a h a'.toList ∧ PR ro c h c'.toList
  | .ni, _, v => v = .nilIface
  | .fc t x, h, v => ∃ x', v = .iface t x' ∧ VR ro x h x'
  | .ag cs, h, v => ∃ arr, v = .agg arr ∧ cs.length = arr.size ∧ OneL arr.toList ∧ PR ro cs h arr.toList
  | .tu cs, h, v => ∃ arr, v = .tuple arr ∧ cs.length = arr.size ∧ PR ro cs h arr.toList
  | .un, _, _ => True
/-- The first of some values are these. -/
def PR (ro : Ro) : List V → Rho → List Value → Prop
  | [], _, _ => True
  | c :: cs, h, l => ∃ v r, l = v :: r ∧ VR ro c h v ∧ PR ro cs h r
end

def RhoE (h h' : Rho) : Prop := ∀ l r, h l = some r → h' l = some r
def RoE (a b : Ro) : Prop := ∀ l r, a l = some r → b l = some r
theorem RhoE.refl (h : Rho) : RhoE h h := fun _ _ e => e
theorem RoE.refl (h : Ro) : RoE h h := fun _ _ e => e
theorem RhoE.trans {a b c : Rho} (h : RhoE a b) (k : RhoE b c) : RhoE a c := fun l r e => k l r (h l r e)
theorem RoE.trans {a b c : Ro} (h : RoE a b) (k : RoE b c) : RoE a c := fun l r e => k l r (h l r e)

theorem FR.mono {h h' : Rho} {f f' : Fn} (he : RhoE h h') (r : FR h f f') : FR h' f f' := by
  unfold FR at *
  split at r <;> first | exact r | (obtain ⟨b, n, e, e'⟩ := r; exact ⟨b, n, he _ _ e, e'⟩)

mutual
theorem VR.mono {ro ro' : Ro} (hr : RoE ro ro') : ∀ (x : V) {h h' : Rho} {v : Value}, RhoE h h' → VR ro x h v → VR ro' x h' v
  | .b _, _, _, _, _, r => by simpa [VR] using r
  | .i _ _, _, _, _, _, r => by simpa [VR] using r
  | .s _, _, _, _, _, r => by simpa [VR] using r
  | .np, _, _, _, _, r => by simpa [VR] using r
  | .p _ _, _, _, _, he, r => by
    simp only [VR] at *
    obtain ⟨b, n, e, e'⟩ := r
    exact ⟨b, n, he _ _ e, e'⟩
  | .rp cs, _, _, _, _, r => by
    simp only [VR] at *
    obtain ⟨b, o, arr, e, f, h1, h2, h4, h3⟩ := r
    exact ⟨b, o, arr, e, f, h1, hr _ _ h2, h4, PR.mono hr cs (RhoE.refl _) h3⟩
  | .ns, _, _, _, _, r => by simpa [VR] using r
  | .sl cs len, _, _, _, _, r => by
    simp only [VR] at *
    obtain ⟨a, cap, h1, h2, h3⟩ := r
    refine ⟨a, cap, h1, h2, ?_⟩
    rcases h3 with h3 | ⟨b, o, arr, e, f, h3, h4, h6, h5⟩
    · exact .inl h3
    · exact .inr ⟨b, o, arr, e, f, h3, hr _ _ h4, h6, PR.mono hr cs (RhoE.refl _) h5⟩
  | .ms _ _ _ _, _, _, _, he, r => by
    simp only [VR] at *
    obtain ⟨b, n, cap, e, r⟩ := r
    exact ⟨b, n, cap, he _ _ e, r⟩
  | .nm, _, _, _, _, r => by simpa [VR] using r
  | .mp _, _, _, _, he, r => by
    simp only [VR] at *
    obtain ⟨b, n, e, r⟩ := r
    exact ⟨b, n, he _ _ e, r⟩
  | .rm ks vs, _, _, _, _, r => by
    simp only [VR] at *
    rcases r with r | ⟨b, es, ck, h1, h2, h3, h4, h5, h6⟩
    · exact .inl r
    · exact .inr ⟨b, es, ck, h1, hr _ _ h2, h3, h4, PR.mono hr ks (RhoE.refl _) h5, PR.mono hr vs (RhoE.refl _) h6⟩
  | .nf, _, _, _, _, r => by simpa [VR] using r
  | .fn f a c, _, _, _, he, r => by
    simp only [VR] at *
    obtain ⟨f', a', c', h1, h2, h3, h4, h5, h6⟩ := r
    exact ⟨f', a', c', h1, h2.mono he, h3, h4, PR.mono hr a he h5, PR.mono hr c he h6⟩
  | .ni, _, _, _, _, r => by simpa [VR] using r
  | .fc t x, _, _, _, he, r => by
    simp only [VR] at *
    obtain ⟨x', h1, h2⟩ := r
    exact ⟨x', h1, VR.mono hr x he h2⟩
  | .ag cs, _, _, _, he, r => by
    simp only [VR] at *
    obtain ⟨arr, h1, h2, h4, h3⟩ := r
    exact ⟨arr, h1, h2, h4, PR.mono hr cs he h3⟩
  | .tu cs, _, _, _, he, r => by
    simp only [VR] at *
    obtain ⟨arr, h1, h2, h3⟩ := r
    exact ⟨arr, h1, h2, PR.mono hr cs he h3⟩
  | .un, _, _, _, _, r => by simp [VR]
theorem PR.mono {ro ro' : Ro} (hr : RoE ro ro') : ∀ (x : List V) {h h' : Rho} {v : List Value}, RhoE h h' → PR ro x h v → PR ro' x h' v
  | [], _, _, _, _, _ => by simp [PR]
  | c :: cs, _, _, _, he, r => by
    simp only [PR] at *
    obtain ⟨v, r', h1, h2, h3⟩ := r
    exact ⟨v, r', h1, VR.mono hr c he h2, PR.mono hr cs he h3⟩
end

/-- What is said of some values, place by place. -/
theorem PR_iff {ro : Ro} {h : Rho} : ∀ (cs : List V) (l : List Value), PR ro cs h l ↔ cs.length ≤ l.length ∧ ∀ (i : Nat) c v, cs[i]? = some c → l[i]? = some v → VR ro c h v
  | [], l => by simp [PR]
  | c :: cs, [] => by simp [PR]
  | c :: cs, v :: l => by
    simp only [PR, PR_iff cs, List.length_cons]
    constructor
    · rintro ⟨v', r, e, h1, h2, h3⟩
      cases e
      refine ⟨by omega, fun i c' v'' hc hv => ?_⟩
      cases i with
      | zero => simp at hc hv; subst hc; subst hv; exact h1
      | succ i => exact h3 i c' v'' (by simpa using hc) (by simpa using hv)
    · rintro ⟨h1, h2⟩
      refine ⟨v, l, rfl, h2 0 c v (by simp) (by simp), by omega, fun i c' v' hc hv => h2 (i + 1) c' v' (by simpa using hc) (by simpa using hv)⟩

theorem PR.len {ro : Ro} {h : Rho} {cs : List V} {l : List Value} (r : PR ro cs h l) : cs.length ≤ l.length := ((PR_iff cs l).1 r).1
theorem PR.at {ro : Ro} {h : Rho} {cs : List V} {l : List Value} (r : PR ro cs h l) {i : Nat} {c : V} {v : Value} (hc : cs[i]? = some c) (hv : l[i]? = some v) : VR ro c h v :=
  ((PR_iff cs l).1 r).2 i c v hc hv
theorem PR.get {ro : Ro} {h : Rho} {cs : List V} {l : List Value} (r : PR ro cs h l) {i : Nat} {c : V} (hc : cs[i]? = some c) : ∃ v, l[i]? = some v ∧ VR ro c h v := by
  have hi : i < cs.length := by
    rcases Nat.lt_or_ge i cs.length with h | h
    · exact h
    · rw [List.getElem?_eq_none h] at hc; cases hc
  have := r.len
  exact ⟨l[i], by simp [show i < l.length by omega], r.at hc (by simp [show i < l.length by omega])⟩
theorem PR.mk {ro : Ro} {h : Rho} {cs : List V} {l : List Value} (hl : cs.length ≤ l.length) (ha : ∀ (i : Nat) c v, cs[i]? = some c → l[i]? = some v → VR ro c h v) : PR ro cs h l :=
  (PR_iff cs l).2 ⟨hl, ha⟩
theorem PR.drop {ro : Ro} {h : Rho} {cs : List V} {l : List Value} (r : PR ro cs h l) (k : Nat) : PR ro (cs.drop k) h (l.drop k) := by
  have := r.len
  refine .mk (by simp; omega) fun i c v hc hv => r.at (i := k + i) ?_ ?_
  · simpa [List.getElem?_drop] using hc
  · simpa [List.getElem?_drop] using hv
theorem PR.take {ro : Ro} {h : Rho} {cs : List V} {l : List Value} (r : PR ro cs h l) (k : Nat) : PR ro (cs.take k) h (l.take k) := by
  have := r.len
  refine .mk (by simp; omega) fun i c v hc hv => r.at (i := i) ?_ ?_
  · rw [List.getElem?_take] at hc; split at hc <;> simp_all
  · rw [List.getElem?_take] at hv; split at hv <;> simp_all
theorem PR.takeL {ro : Ro} {h : Rho} {cs : List V} {l : List Value} (r : PR ro cs h l) (k : Nat) : PR ro (cs.take k) h l := by
  have := r.len
  refine .mk (by simp; omega) fun i c v hc hv => r.at (i := i) ?_ hv
  rw [List.getElem?_take] at hc; split at hc <;> simp_all
theorem PR.append {ro : Ro} {h : Rho} {cs ds : List V} {l k : List Value} (r : PR ro cs h l) (hl : cs.length = l.length) (r' : PR ro ds h k) : PR ro (cs ++ ds) h (l ++ k) := by
  have := r'.len
  refine .mk (by simp; omega) fun i c v hc hv => ?_
  by_cases hi : i < cs.length
  · rw [List.getElem?_append_left hi] at hc
    rw [List.getElem?_append_left (by omega)] at hv
    exact r.at hc hv
  · rw [List.getElem?_append_right (by omega)] at hc hv
    rw [← hl] at hv
    exact r'.at hc hv

end Pi
