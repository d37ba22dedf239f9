/- Laws of layer 11: what follows from a store. -/
import Derived.Test.YtfdkpnckflmcaaaC11n
import Derived.Test.YtfdkpnckflmcaaaC11k
set_option linter.unusedSimpArgs false
set_option linter.unusedVariables false
namespace Pi
set_option maxRecDepth 20000 in
set_option maxHeartbeats 2000000 in
theorem law11_StoreFollows.a (n : Nat) (hn : n < 256) (l b v k : List Nat) (hb : Byt l) (hl : l.length ≤ 9223372036854775807) (hbb : Byt b) (hlb : b.length ≤ 9223372036854775807)
    (hbv : Byt v) (hlv : v.length ≤ 9223372036854775807) (hbk : Byt k) (hlk : k.length ≤ 9223372036854775807) :
    Ans ctx law11_StoreFollows.n [.i .u8 n, sV cU l, sV cU b, sV cU v, sV cU k] (.b true) := by
  refine ans law11_StoreFollows.f ?_
  have hv := varsB_bd n
  have hM := law11_Made.a n hn l hb hl
  have hA := law11_atoms.a n hn b hbb hlb
  have hg := madeSt_Gd n l
  have hMo := law08_Model.a n hn v hbv hlv
  have hMl := modelB_len n v
  have hMn := modelB_nats n v
  have hD := law08_Made.a n hn k hbk hlk
  have hDl := made_len n k
  have hD6 := made_six n k
  have hDo := made_ok n k
  have hAr := fun a c => @atoms_right n b a c
  have hAl := atomsB_len n b
  generalize madeC n k = D at *
  generalize modelB n v = M at *
  generalize madeSt n l = s at *
  generalize atomsB n b = AS at *
  generalize varsB n = V at *
  rcases AS with _ | ⟨a, _ | ⟨y, bs⟩⟩
  · simp +contextual (disch := omega) [Nat.add_assoc, Int.add_assoc, if_pos, if_neg, -Int.not_lt, -Int.not_le, -Nat.not_lt, -Nat.not_le, -List.length_flatMap, law11_StoreFollows.c, ansK hM, ansK hA]
  · simp +contextual (disch := omega) [Nat.add_assoc, Int.add_assoc, if_pos, if_neg, -Int.not_lt, -Int.not_le, -Nat.not_lt, -Nat.not_le, -List.length_flatMap, law11_StoreFollows.c, ansK hM, ansK hA]
  · obtain ⟨hR, hoff, hbl⟩ := hAr a (y :: bs) rfl (by simp)
    have hbn : (y :: bs) ≠ [] := by simp
    have hln : 2 ≤ (a :: y :: bs).length := by simp
    have hll : 1 ≤ (y :: bs).length := by simp
    generalize y :: bs = L at *
    have hF := store_Follows.a s a L hg.few (by omega)
    rw [follows_v hg hR hoff (by omega)] at hF
    have hRa := against_ok hg hR hoff (by omega)
    have h6 : ∀ c ∈ [(⟨L, a⟩ : C)], c.frm.length ≤ 9223372036854775807 := fun c hc => by rw [List.mem_singleton.1 hc]; simp only; omega
    have hoffs : ∀ x ∈ L, 0 ≤ x.off ∧ x.off < 1000 := by
      intro x hx
      rw [List.any_eq_false] at hoff
      have h1 := hoff x hx
      have h2 := (right_ok hR).2.2.2 _ (List.mem_singleton.2 rfl)
      simp only [okC, Bool.and_eq_true, List.all_eq_true] at h2
      have h3 := h2.2 x (by simp [hx])
      simp [okA] at h3
      simp [greatA] at h1
      omega
    have hbr : ∀ m : List Int, m.length = V → Nats m → Ans ctx ref08_Broken.n [.sl (sV cA L :: cA a) 1, sV cI m] (.tu [sV cI (placesS (brokenC m) [⟨L, a⟩]), .i .i64 0]) := fun m h1 h2 => by
      have := ref08_Broken.a [⟨L, a⟩] m (by simp) h6 (by omega)
      rw [broken_v (by rw [h1]; exact hR) h2] at this
      exact this
    have hpl : ∀ m, placesS (brokenC m) [(⟨L, a⟩ : C)] = if brokenC m ⟨L, a⟩ = true then [0] else [] := by
      intro m
      unfold placesS
      cases h : brokenC m ⟨L, a⟩ <;> simp [h]
    cases hs : (solveC V (s.cl ++ againstL a L)).2.1 with
    | true =>
      rw [hs] at hF
      have hga := hg.add (against_right hR hoff (by omega)) (by rw [against_len]; omega)
      have hA2 := store_Add.a s (againstL a L) hg.few (by rw [against_len]; omega) (fun c hc => by rw [against_frm c hc]; omega)
      rw [hg.addV (against_right hR hoff (by omega)) (by rw [against_len]; omega), if_pos hs] at hA2
      have hcl : (addS s (againstL a L)).cl = s.cl ++ againstL a L := by rw [addS_on hg hs]
      have hB2 := hbr (addS s (againstL a L)).md hga.nats.2 hga.nats.1
      have hbt : brokenC (addS s (againstL a L)).md ⟨L, a⟩ = true := (against_iff hbn).1 (holds_app.1 (hcl ▸ hga.least.1.holds)).2
      rw [hpl, if_pos hbt] at hB2
      generalize addS s (againstL a L) = t at *
      simp +contextual (disch := omega) [Nat.add_assoc, Int.add_assoc, if_pos, if_neg, -Int.not_lt, -Int.not_le, -Nat.not_lt, -Nat.not_le, -List.length_flatMap, law11_StoreFollows.c, ansK hM, ansK hA, ansK hF]
      refine for_w (fun i e m x => e 11 = .b true ∧ e 12 = .p 7 0 ∧ e 13 = sV cA (a :: L) ∧ e 16 = .p 32 0 ∧ e 18 = .i .i64 (i + 1) ∧ 33 ≤ x ∧ m 7 = some (.cells (cS s) false) ∧ m 32 = some (.cells (sV cA L :: cA a) false) ∧ Bf m (e 17) cC 3 (againstL a (L.take i)) 33 x) L.length ?_ ?_ ?_
      · simp +contextual (disch := omega) [Nat.add_assoc, Int.add_assoc, if_pos, if_neg, -Int.not_lt, -Int.not_le, -Nat.not_lt, -Nat.not_le, -List.length_flatMap]
        exact Bf.nil
      · rintro i e m x hi ⟨g11, g12, g13, g16, g18, hx, y7, y32, g17⟩
        have ho := hoffs L[i] (List.getElem_mem hi)
        generalize hB : e 17 = B at g17
        have ht : againstL a (L.take (i + 1)) = againstL a (L.take i) ++ [⟨[a], ⟨L[i].var, L[i].off + 1⟩⟩] := by
          unfold againstL
          rw [List.take_succ_eq_append_getElem hi, List.map_append]; rfl
        have hlen : (againstL a (L.take i)).length = i := by rw [against_len, List.length_take]; omega
        simp +contextual (disch := omega) [Nat.add_assoc, Int.add_assoc, if_pos, if_neg, -Int.not_lt, -Int.not_le, -Nat.not_lt, -Nat.not_le, -List.length_flatMap, law11_StoreFollows.b1, g11, g12, g13, g16, g18, y7, y32, hB, hi, -apV_ns]
        refine g17.ap [⟨[a], ⟨L[i].var, L[i].off + 1⟩⟩] (fun j h1 h2 => by simp +contextual (disch := omega) [Nat.add_assoc, Int.add_assoc, if_pos, if_neg, -Int.not_lt, -Int.not_le, -Nat.not_lt, -Nat.not_le, -List.length_flatMap]) (by omega) (by omega) rfl rfl (by rw [hlen]; simp; omega) ?_
        intro B' ws m2 z0 z1 z2 z3
        rw [← ht] at z1
        have q7 : m2 7 = some (.cells (cS s) false) := by rw [z2 7 (by omega)]; simp +contextual (disch := omega) [Nat.add_assoc, Int.add_assoc, if_pos, if_neg, -Int.not_lt, -Int.not_le, -Nat.not_lt, -Nat.not_le, -List.length_flatMap, y7]
        have q32 : m2 32 = some (.cells (sV cA L :: cA a) false) := by rw [z2 32 (by omega)]; simp +contextual (disch := omega) [Nat.add_assoc, Int.add_assoc, if_pos, if_neg, -Int.not_lt, -Int.not_le, -Nat.not_lt, -Nat.not_le, -List.length_flatMap, y32]
        simp +contextual (disch := omega) [Nat.add_assoc, Int.add_assoc, if_pos, if_neg, -Int.not_lt, -Int.not_le, -Nat.not_lt, -Nat.not_le, -List.length_flatMap, z0, g11, g12, g13, g16, g18, q7, q32, z1.stor, z1.cells]
        exact ⟨by omega, z1.up (by omega) (fun _ _ _ => rfl)⟩
      · rintro e m x ⟨g11, g12, g13, g16, g18, hx, y7, y32, g17⟩
        rw [List.take_length] at g17
        have hz := g17.fz24
        have hr : ∀ j, j < 33 → j ∉ refOf (e 17) := fun j hj => by
          rcases g17 with ⟨h, _⟩ | ⟨a, cs, h, _, _, h3, _⟩
          · rw [h]; simp [refOf]
          · rw [h]; simp [refOf]; omega
        generalize hB : e 17 = B at g17 hz hr
        have y7' : ∀ u, aft u m (refOf B) 7 = some (.cells (cS s) false) := fun u => by rw [aft_none _ _ _ _ (hr 7 (by omega)), y7]
        have y32' : ∀ u, aft u m (refOf B) 32 = some (.cells (sV cA L :: cA a) false) := fun u => by rw [aft_none _ _ _ _ (hr 32 (by omega)), y32]
        simp +contextual (disch := omega) [Nat.add_assoc, Int.add_assoc, if_pos, if_neg, -Int.not_lt, -Int.not_le, -Nat.not_lt, -Nat.not_le, -List.length_flatMap, law11_StoreFollows.b1, g11, g12, g13, g16, g18, y7, y32, hB, hz, ansK hA2, y7', y32', ansK hB2]
    | false =>
      rw [hs] at hF
      have hfa := follows_add hg hbn hR hoff (by omega) (by omega) hs
      have hA3 : Ans ctx store_Add.n [.ag (cS s), .sl (sV cA L :: cA a) 1] (addV s [⟨L, a⟩]) := store_Add.a s [⟨L, a⟩] hg.few (by simp) h6
      rw [hg.addV hR (by simp), if_pos hfa.1, addS_on hg hfa.1, hfa.2] at hA3
      have hI := ref08_Ints.a s.md s.md (by have := hg.nats.2; omega)
      have hB1 := ref08_Broken.a s.cl M (by have := hg.len; omega) (fun c hc => by have := hg.few.2.2.2 c hc; omega) (by omega)
      rw [broken_v (by rw [hMl]; exact hg.cl) hMn] at hB1
      have hB2 := hbr M hMl hMn
      have hpp : (placesS (brokenC M) s.cl).length = 0 → (placesS (brokenC M) [(⟨L, a⟩ : C)]).length = 0 := by
        intro h
        have hh : holdsC s.cl M := places_len0.1 h
        have := follows_holds hg hbn hR hoff (by omega) hs hMl (fun i => by
          by_cases hi : i < M.length
          · have := hMn _ (List.getElem_mem hi)
            rw [getD_get _ _ hi]; omega
          · rw [List.getD_eq_getElem?_getD, List.getElem?_eq_none (by omega)]; simp) hh
        rw [hpl, this]; rfl
      have hrD : rightC V (D.take 5) = true := by
        simp [rightC, List.length_take]
        exact ⟨by omega, fun c hc => hDo c (List.mem_of_mem_take hc)⟩
      have hD5 : (D.take 5).length ≤ 5 := by rw [List.length_take]; omega
      have hA4 := store_Add.a s (D.take 5) hg.few (by omega) (fun c hc => hD6 c (List.mem_of_mem_take hc))
      rw [hg.addV hrD (by omega)] at hA4
      have hgu := hg.add hrD (by omega)
      have hFu := store_Follows.a (addS s (D.take 5)) a L hgu.few (by omega)
      rw [follows_v hgu hR hoff (by omega)] at hFu
      generalize placesS (brokenC M) s.cl = p1 at *
      generalize placesS (brokenC M) [(⟨L, a⟩ : C)] = p2 at *
      have hmin : D.take (min (D.length : Int) 5).toNat = D.take 5 := by
        have : (min (D.length : Int) 5).toNat = min D.length 5 := by omega
        rw [this]
        by_cases h : D.length ≤ 5
        · rw [Nat.min_eq_left h, List.take_length, List.take_of_length_le h]
        · rw [Nat.min_eq_right (by omega)]
      by_cases hp1 : p1.length = 0
      · have hp2 := hpp hp1
        split at hA4
        · rename_i hs2
          have hsu := follows_more hg hR hoff (by omega) hs (d := D.take 5) (by
            have := against_ok hgu hR hoff (by omega)
            rwa [addS_on hg hs2] at this)
          have e1 : (addS s (D.take 5)).cl = s.cl ++ D.take 5 := by rw [addS_on hg hs2]
          rw [e1, hsu] at hFu
          generalize addS s (D.take 5) = u at *
          simp +contextual (disch := omega) [Nat.add_assoc, Int.add_assoc, if_pos, if_neg, -Int.not_lt, -Int.not_le, -Nat.not_lt, -Nat.not_le, -List.length_flatMap, law11_StoreFollows.c, ansK hM, ansK hA, ansK hF, ansK hA3, ansK hI, ansK hMo, ansK hB1, ansK hB2, hp1, hp2, ansK hD, hmin, ansK hA4, ansK hFu]
        · simp +contextual (disch := omega) [Nat.add_assoc, Int.add_assoc, if_pos, if_neg, -Int.not_lt, -Int.not_le, -Nat.not_lt, -Nat.not_le, -List.length_flatMap, law11_StoreFollows.c, ansK hM, ansK hA, ansK hF, ansK hA3, ansK hI, ansK hMo, ansK hB1, ansK hB2, hp1, hp2, ansK hD, hmin, ansK hA4]
      · split at hA4
        · rename_i hs2
          have hsu := follows_more hg hR hoff (by omega) hs (d := D.take 5) (by
            have := against_ok hgu hR hoff (by omega)
            rwa [addS_on hg hs2] at this)
          have e1 : (addS s (D.take 5)).cl = s.cl ++ D.take 5 := by rw [addS_on hg hs2]
          rw [e1, hsu] at hFu
          generalize addS s (D.take 5) = u at *
          simp +contextual (disch := omega) [Nat.add_assoc, Int.add_assoc, if_pos, if_neg, -Int.not_lt, -Int.not_le, -Nat.not_lt, -Nat.not_le, -List.length_flatMap, law11_StoreFollows.c, ansK hM, ansK hA, ansK hF, ansK hA3, ansK hI, ansK hMo, ansK hB1, ansK hB2, hp1, ansK hD, hmin, ansK hA4, ansK hFu]
        · simp +contextual (disch := omega) [Nat.add_assoc, Int.add_assoc, if_pos, if_neg, -Int.not_lt, -Int.not_le, -Nat.not_lt, -Nat.not_le, -List.length_flatMap, law11_StoreFollows.c, ansK hM, ansK hA, ansK hF, ansK hA3, ansK hI, ansK hMo, ansK hB1, ansK hB2, hp1, ansK hD, hmin, ansK hA4]
end Pi
