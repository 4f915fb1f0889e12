/-
  route.Allowed; the reference's ways: laid, Via, Allowed, Next, Walk.
-/
import Derived.Test.YtcleonpckgfdhaaGreatDoorRtKnown
set_option linter.unusedVariables false
set_option linter.unusedSimpArgs false
set_option maxRecDepth 100000
namespace Go.Proofs.YtcleonpckgfdhaaGreatDoor
open Go Go.RowKit Go.Lib Go.Shelf

theorem notIn_any (W : World) (q : Nat) (ad : Option Addr) (n c : Nat) (L : List Str) (x : Str) (hA : At W ad n L) (hn : n ≤ 100000) (hp : W.cell? ⟨q, 0, none⟩ = some (.slice ad n c)) :
    Calls Tryz.prog 30 #[.string ⟨x.toArray⟩, .pointer (some ⟨q, 0, none⟩)] W fun e w' => e = .returned (.bool (!decide (x ∈ L))) ∧ Below W.heap.size W w' := by
  have hC := contains_any W ad n c L x hA hn
  clear hA
  cases hx : decide (x ∈ L) <;> (
    rw [hx] at hC
    clear hx
    go_enter Tryz.func30, Tryz.ntmps30
    go_wp2_with (go_at_call 25; refine hC.mono ?_; rintro e w2 ⟨rfl, h2⟩; replace h2 := h2.symm; subst h2)
    go_ret
    exact ⟨rfl, Below.refl _ _⟩)

set_option maxHeartbeats 1000000 in
theorem allowed_any (w : World) (v : Tv) (T : Topo) (a b : ByteArray) (ad : Option Addr) (n c : Nat) (L : List Str) (hT : Tt w v T) (hS : Short T) (hg : Glob w) (ha : a.size < 90000) (hb : b.size < 90000) (hA : At w ad n L) (hn : n ≤ 4611686018427387904) :
    Calls Tryz.prog 16 #[.agg #[.slice v.ar v.nr v.cr, .slice v.al v.nl v.cl, .slice v.ap v.np v.cp], .string a, .string b, .slice ad n c] w fun e w' => e = .returned (.bool (allowedOf T a.data.toList b.data.toList L)) ∧ Below w.heap.size w w' := by
  have acc : Below w.heap.size w (w.alloc (.cells #[.slice v.ar v.nr v.cr, .slice v.al v.nl v.cl, .slice v.ap v.np v.cp] 26)) := (Below.refl _ _).alloc (Nat.le_refl _) _
  have hVia := via_any _ v T a b (hT.below acc) hS (hg.below acc) ha hb
  have hVl := via_len hS a.data.toList b.data.toList
  have hR : (!L.any fun x => !decide (x ∈ viaOf T a.data.toList b.data.toList)) = allowedOf T a.data.toList b.data.toList L := by
    unfold allowedOf
    rw [List.not_any_eq_all_not]
    congr 1
    funext x
    simp
  obtain ⟨R, hR2⟩ : ∃ R, R = allowedOf T a.data.toList b.data.toList L := ⟨_, rfl⟩
  rw [← hR2] at hR ⊢
  clear hR2
  generalize viaOf T a.data.toList b.data.toList = V at hVia hVl hR
  obtain ⟨m, hm⟩ : ∃ m, m = V.length := ⟨_, rfl⟩
  rw [← hm] at hVia hVl
  have hAny := fun W q ad' c' (hAV : At W ad' m V) (hA : At W ad n L) (hp : W.cell? ⟨q, 0, none⟩ = some (.slice ad' m c')) (hq : q < W.heap.size) => notInAny_any W q ad n c L (fun x => !decide (x ∈ V)) hA hn (fun W2 x h2 hx => notIn_any W2 q ad' m c' V x (hAV.below h2) hVl ((h2.cell (p := ⟨q, 0, none⟩) hq).trans hp))
  have HANY := Lib.hid hAny
  have HVIA := Lib.hid hVia
  have HR := Lib.hid hR
  have HA := Lib.hid (hA.below acc)
  have HACC := Lib.hid acc
  obtain ⟨Y, hY⟩ : ∃ Y, Y = L.any fun x => !decide (x ∈ V) := ⟨_, rfl⟩
  clear hVia hAny hR hA hT hS hg hm hVl acc
  have HY := Lib.hid hY
  have hYR : (!Y) = R := by rw [hY]; exact HR.out
  subst hYR
  clear hY
  go_enter Tryz.func16, Tryz.ntmps16
  go_wp2_with (first
    | (go_at_call 14; refine HVIA.out.mono ?_; rintro e w2 ⟨av, cv, rfl, ho, hb2⟩)
    | (go_at_call 29; refine (HANY.out _ _ _ _ ((At.owns ho).below ((Below.refl _ _).alloc (Nat.le_refl _) _)) ((HA.out.below hb2).below ((Below.refl _ _).alloc (Nat.le_refl _) _)) (cell_new rfl _ _ rfl) (by simp)).mono ?_; rintro e w3 ⟨rfl, hb3⟩; rw [← HY.out]))
  go_ret
  exact ⟨rfl, HACC.out.trans ((hb2.trans ((((Below.refl _ _).alloc (Nat.le_refl _) _).trans (hb3.mono (by simp))).mono hb2.size)).mono HACC.out.size)⟩

def laidIx (T : Topo) (a b : Str) : Int := match T.paths.findIdx? fun p => decide (p.1 = (a, b)) with
  | some i => (i : Int)
  | none => -1
theorem laidIx_at {T : Topo} {a b : Str} {k : Nat} (hk : k < T.paths.length) (h : T.paths[k]!.1 = (a, b)) (h2 : ∀ j, j < k → T.paths[j]!.1 ≠ (a, b)) : laidIx T a b = (k : Int) := by
  unfold laidIx
  have : T.paths.findIdx? (fun p => decide (p.1 = (a, b))) = some k := by
    rw [List.findIdx?_eq_some_iff_getElem]
    refine ⟨hk, by rw [getElem!_pos T.paths k hk] at h; simpa using h, fun j hj => ?_⟩
    have := h2 j hj
    rw [getElem!_pos T.paths j (by omega)] at this
    simpa using this
  rw [this]
theorem laidIx_no {T : Topo} {a b : Str} (h : ∀ p ∈ T.paths, p.1 ≠ (a, b)) : laidIx T a b = -1 := by
  unfold laidIx
  have : T.paths.findIdx? (fun p => decide (p.1 = (a, b))) = none := by
    rw [List.findIdx?_eq_none_iff]
    intro x hx
    rw [decide_eq_false_iff_not]
    exact h x hx
  rw [this]
theorem laid_ix {T : Topo} {a b : Str} : (laidOf T a b = none ∧ laidIx T a b = -1) ∨ ∃ k : Nat, k < T.paths.length ∧ laidIx T a b = (k : Int) ∧ laidOf T a b = some T.paths[k]!.2 := by
  unfold laidIx laidOf
  cases hf : T.paths.findIdx? fun p => decide (p.1 = (a, b)) with
  | none =>
    left
    rw [List.findIdx?_eq_none_iff] at hf
    refine ⟨?_, rfl⟩
    rw [Option.map_eq_none_iff, List.find?_eq_none]
    intro x hx
    simpa using hf x hx
  | some k =>
    right
    have hs := hf
    rw [List.findIdx?_eq_some_iff_getElem] at hs
    obtain ⟨hk, h1, h2⟩ := hs
    refine ⟨k, hk, rfl, ?_⟩
    have : T.paths.find? (fun p => decide (p.1 = (a, b))) = some T.paths[k] := by
      rw [List.find?_eq_some_iff_getElem]
      exact ⟨h1, k, hk, rfl, fun j hj => by have := h2 j hj; simpa using this⟩
    rw [this, getElem!_pos T.paths k hk]
    rfl

set_option maxHeartbeats 1000000 in
theorem ref7laid_any (w : World) (v : Tv) (T : Topo) (a b : ByteArray) (hT : Tt w v T) (hn : v.np ≤ 4611686018427387904) :
    Calls Tryz.prog 24 #[.agg #[.slice v.ar v.nr v.cr, .slice v.al v.nl v.cl, .slice v.ap v.np v.cp], .string a, .string b] w fun e w' => e = .returned (.int .i64 (laidIx T a.data.toList b.data.toList)) ∧ Below w.heap.size w w' := by
  obtain ⟨ar, nr, cr, al, nl, cl, ap, np, cp⟩ := v
  dsimp only at hn ⊢
  obtain ⟨R, hR⟩ : ∃ R, R = laidIx T a.data.toList b.data.toList := ⟨_, rfl⟩
  rw [← hR]
  have HR := Lib.hid hR
  obtain ⟨w1, hw1⟩ : ∃ w1, w1 = w.alloc (.cells #[.slice ar nr cr, .slice al nl cl, .slice ap np cp] 26) := ⟨_, rfl⟩
  obtain ⟨acc0, hz, kp⟩ := box_keep hw1
  have keep : ∀ W, Below w1.heap.size w1 W → W.cell? ⟨w.heap.size, 2, none⟩ = some (.slice ap np cp) := fun W h => kp W h 2 _ rfl
  have HT := Lib.hid (hT.below acc0)
  have KEEP := Lib.hid keep
  have ACC := Lib.hid acc0
  have HW1 := Lib.hid hw1
  clear hT hR hw1 acc0 hz kp keep
  go_enter Tryz.func24, Tryz.ntmps24
  go_wp2
  rw [← HW1.out]
  go_loopg [7] np (fun gg s7 wr => ∃ k : Nat, k ≤ np ∧ np - k ≤ gg ∧ s7 = .int .i64 k ∧ Aside (∀ j, j < k → T.paths[j]!.1 ≠ (a.data.toList, b.data.toList)) ∧ Aside (Below w1.heap.size w1 wr))
  case atStart => exact ⟨0, by omega, by omega, rfl, fun j hj => absurd hj (Nat.not_lt_zero _), Below.refl _ _⟩
  case round =>
    obtain ⟨k, hk, hgg, rfl, HK, HB⟩ := hrel
    have a2 := KEEP.out wr HB.out
    by_cases hlt : k < np
    · have hltz : (k : Int) < (np : Int) := by omega
      obtain ⟨bb, off, hb, hbl, hc⟩ := HT.out.p.cell (show 0 < np by omega)
      obtain ⟨av, nv, cv, h1, h2, h3, hV, hnv⟩ := hc k hlt
      obtain ⟨x, hx⟩ : ∃ x : ByteArray, x = ⟨T.paths[k]!.1.1.toArray⟩ := ⟨_, rfl⟩
      obtain ⟨y, hy⟩ : ∃ y : ByteArray, y = ⟨T.paths[k]!.1.2.toArray⟩ := ⟨_, rfl⟩
      have hxy : (x.data.toList, y.data.toList) = T.paths[k]!.1 := by rw [hx, hy]
      have c0 := (HB.out.cell (p := ⟨bb, off + k * 3, none⟩) hbl).trans h1
      have c1 := (HB.out.cell (p := ⟨bb, off + k * 3 + 1, none⟩) hbl).trans h2
      rw [← hx] at c0
      rw [← hy] at c1
      have kx := eq_bytes x a
      have ky := eq_bytes y b
      have hne : (T.paths[k]!.1 = (a.data.toList, b.data.toList)) ↔ (x.data.toList = a.data.toList ∧ y.data.toList = b.data.toList) := by rw [← hxy, Prod.mk.injEq]
      have HNE := Lib.hid hne
      subst hb
      clear hc h1 h2 h3 hV hnv hx hy hxy hne
      by_cases q1 : x.data.toList = a.data.toList
      · rw [decide_eq_true q1] at kx
        by_cases q2 : y.data.toList = b.data.toList
        · rw [decide_eq_true q2] at ky
          have hr : R = (k : Int) := by rw [HR.out]; exact laidIx_at (by have e : T.paths.length = np := HT.out.p.len; omega) (HNE.out.2 ⟨q1, q2⟩) HK.out
          subst hr
          clear q1 q2
          go_wp2
          go_ret
          exact ⟨rfl, ACC.out.trans (HB.out.mono ACC.out.size)⟩
        · rw [decide_eq_false q2] at ky
          have HW := Lib.hid (fun h => q2 (HNE.out.1 h).2)
          clear q1 q2
          go_wp2
          go_roundg (np - (k + 1))
          case measure => omega
          case rel =>
            refine ⟨k + 1, by omega, by omega, by go_num, fun j hj => ?_, HB.out⟩
            by_cases e : j = k
            · subst e; exact HW.out
            · exact HK.out j (by omega)
      · rw [decide_eq_false q1] at kx
        have HW := Lib.hid (fun h => q1 (HNE.out.1 h).1)
        clear q1 ky
        go_wp2
        go_roundg (np - (k + 1))
        case measure => omega
        case rel =>
          refine ⟨k + 1, by omega, by omega, by go_num, fun j hj => ?_, HB.out⟩
          by_cases e : j = k
          · subst e; exact HW.out
          · exact HK.out j (by omega)
    · have hkn : np = k := by omega
      subst hkn
      have hr : R = -1 := by
        rw [HR.out]
        refine laidIx_no fun p hp => ?_
        obtain ⟨j, hj, rfl⟩ := List.getElem_of_mem hp
        have := HK.out j (by have e : T.paths.length = np := HT.out.p.len; omega)
        rwa [getElem!_pos T.paths j hj] at this
      subst hr
      go_wp2
      go_ret
      exact ⟨rfl, ACC.out.trans (HB.out.mono ACC.out.size)⟩

set_option maxHeartbeats 1000000 in
theorem ref7via_any (w : World) (v : Tv) (T : Topo) (a b : ByteArray) (hT : Tt w v T) (hn : v.np ≤ 4611686018427387904) (ha : a.size < 90000) (hb : b.size < 90000) :
    Calls Tryz.prog 15 #[.agg #[.slice v.ar v.nr v.cr, .slice v.al v.nl v.cl, .slice v.ap v.np v.cp], .string a, .string b] w fun e w' => ∃ ad c, e = .returned (.slice ad (viaOf T a.data.toList b.data.toList).length c) ∧ At w' ad (viaOf T a.data.toList b.data.toList).length (viaOf T a.data.toList b.data.toList) ∧ Below w.heap.size w w' := by
  obtain ⟨ar, nr, cr, al, nl, cl, ap, np, cp⟩ := v
  dsimp only at hn ⊢
  obtain ⟨w1, hw1⟩ : ∃ w1, w1 = w.alloc (.cells #[.slice ar nr cr, .slice al nl cl, .slice ap np cp] 26) := ⟨_, rfl⟩
  obtain ⟨acc0, hz, kp⟩ := box_keep hw1
  have keep : ∀ W, Below w1.heap.size w1 W → W.cell? ⟨w.heap.size, 2, none⟩ = some (.slice ap np cp) := fun W h => kp W h 2 _ rfl
  have hL := ref7laid_any w1 ⟨ar, nr, cr, al, nl, cl, ap, np, cp⟩ T a b (hT.below acc0) hn
  dsimp only at hL
  rw [hw1] at hL
  have HT := Lib.hid (hT.below acc0)
  have KEEP := Lib.hid keep
  have ACC := Lib.hid acc0
  have HW1 := Lib.hid hw1
  clear acc0 hz kp keep
  rcases laid_ix (T := T) (a := a.data.toList) (b := b.data.toList) with ⟨h1, h2⟩ | ⟨k, hk, h2, h1⟩
  · have hV : viaOf T a.data.toList b.data.toList = betOf a.data.toList b.data.toList := by unfold viaOf; rw [h1]
    rw [hV]
    rw [h2] at hL
    have hBt := fun W => refbet_any W a b ha hb
    unfold BetPost at hBt
    clear h1 h2 hV hT hw1
    go_enter Tryz.func15, Tryz.ntmps15
    go_wp2_with (first
      | (go_at_call 24; refine hL.mono ?_; rintro e w2 ⟨rfl, hb2⟩; rw [← HW1.out] at hb2)
      | (go_at_call 28; refine (hBt _).mono ?_; rintro e w3 ⟨ad, c, rfl, ho, hb3⟩))
    go_ret
    exact ⟨ad, c, rfl, At.owns ho, ACC.out.trans ((hb2.trans (hb3.mono hb2.size)).mono ACC.out.size)⟩
  · have hV : viaOf T a.data.toList b.data.toList = T.paths[k]!.2 := by unfold viaOf; rw [h1]
    rw [hV]
    rw [h2] at hL
    have hpl : T.paths.length = np := HT.out.p.len
    obtain ⟨bb, off, hbb, hbl, hc⟩ := HT.out.p.cell (show 0 < np by omega)
    obtain ⟨av, nv, cv, _, _, h3, hA, hnv⟩ := hc k (show k < np by omega)
    generalize T.paths[k]!.2 = V at hA ⊢
    have hvl := hA.len
    have hkn : k < np := by omega
    have hkz : (k : Int) < (np : Int) := by omega
    have hk0 : (0 : Int) ≤ (k : Int) := by omega
    have HA := Lib.hid hA
    have HVL := Lib.hid hvl
    have H3 := Lib.hid h3
    subst hbb
    clear h1 h2 hV hT hw1 hc h3 hA hvl hk hpl hnv
    go_enter Tryz.func15, Tryz.ntmps15
    go_wp2_with (go_at_call 24; refine hL.mono ?_; rintro e w2 ⟨rfl, hb2⟩; rw [← HW1.out] at hb2; have c0 := KEEP.out w2 hb2; have c2 := (hb2.cell (p := ⟨bb, off + k * 3 + 2, none⟩) hbl).trans H3.out)
    go_ret
    exact ⟨av, cv, by rw [HVL.out]; rfl, by rw [HVL.out]; exact HA.out.below hb2, ACC.out.trans (hb2.mono ACC.out.size)⟩

set_option maxHeartbeats 1000000 in
theorem ref7allowed_any (w : World) (v : Tv) (T : Topo) (a b : ByteArray) (ad : Option Addr) (n c : Nat) (L : List Str) (hT : Tt w v T) (hS : Short T) (hn : v.np ≤ 4611686018427387904) (ha : a.size < 90000) (hb : b.size < 90000) (hA : At w ad n L) (hn2 : n ≤ 4611686018427387904) :
    Calls Tryz.prog 17 #[.agg #[.slice v.ar v.nr v.cr, .slice v.al v.nl v.cl, .slice v.ap v.np v.cp], .string a, .string b, .slice ad n c] w fun e w' => e = .returned (.bool (allowedOf T a.data.toList b.data.toList L)) ∧ Below w.heap.size w w' := by
  obtain ⟨ar, nr, cr, al, nl, cl, ap, np, cp⟩ := v
  dsimp only at hn ⊢
  obtain ⟨w1, hw1⟩ : ∃ w1, w1 = w.alloc (.cells #[.slice ar nr cr, .slice al nl cl, .slice ap np cp] 26) := ⟨_, rfl⟩
  obtain ⟨acc0, hz, kp⟩ := box_keep hw1
  have hV := ref7via_any w1 ⟨ar, nr, cr, al, nl, cl, ap, np, cp⟩ T a b (hT.below acc0) hn ha hb
  dsimp only at hV
  rw [hw1] at hV
  have hVl := via_len hS a.data.toList b.data.toList
  obtain ⟨R, hR⟩ : ∃ R, R = allowedOf T a.data.toList b.data.toList L := ⟨_, rfl⟩
  rw [← hR]
  unfold allowedOf at hR
  generalize viaOf T a.data.toList b.data.toList = V at hV hVl hR
  obtain ⟨m, hm⟩ : ∃ m, m = V.length := ⟨_, rfl⟩
  rw [← hm] at hV hVl
  have HR := Lib.hid hR
  have HA := Lib.hid (hA.below acc0)
  have ACC := Lib.hid acc0
  have HW1 := Lib.hid hw1
  clear acc0 hz kp hA hR hT hw1 hm hS
  go_enter Tryz.func17, Tryz.ntmps17
  go_wp2_with (go_at_call 15; refine hV.mono ?_; rintro e w2 ⟨av, cv, rfl, hAV, hb2⟩; rw [← HW1.out] at hb2)
  have HAV := Lib.hid hAV
  have HB2 := Lib.hid hb2
  clear hAV hb2 hV
  go_loopg [10] n (fun gg s10 wr => ∃ k : Nat, k ≤ n ∧ n - k ≤ gg ∧ s10 = .int .i64 k ∧ Aside (∀ j, j < k → L[j]! ∈ V) ∧ Aside (Below w2.heap.size w2 wr))
  case atStart => exact ⟨0, by omega, by omega, rfl, fun j hj => absurd hj (Nat.not_lt_zero _), Below.refl _ _⟩
  case round =>
    obtain ⟨k, hk, hgg, rfl, HK, HB⟩ := hrel
    by_cases hlt : k < n
    · have hltz : (k : Int) < (n : Int) := by omega
      obtain ⟨bb, off, hbb, hbl, hc⟩ := HA.out.cell (show 0 < n by omega)
      obtain ⟨x, hx⟩ : ∃ x : ByteArray, x = ⟨L[k]!.toArray⟩ := ⟨_, rfl⟩
      have hxd : x.data.toList = L[k]! := by rw [hx]
      have c0 := ((HB2.out.trans (HB.out.mono HB2.out.size)).cell (p := ⟨bb, off + k, none⟩) hbl).trans (hc k hlt)
      rw [← hx] at c0
      have hP := place_any wr av m cv V x (HAV.out.below HB.out) (by omega)
      have pn := place_neg V x.data.toList
      rw [hxd] at pn hP
      subst hbb
      have HXD := Lib.hid hxd
      clear hc hx hxd
      by_cases q : L[k]! ∈ V
      · rw [decide_eq_true q] at pn
        have HQ := Lib.hid q
        clear q
        generalize placeOf V L[k]! = pv at pn hP
        go_wp2_with (go_at_call 20; refine hP.mono ?_; rintro e w3 ⟨rfl, hq3⟩)
        go_roundg (n - (k + 1))
        case measure => omega
        case rel =>
          refine ⟨k + 1, by omega, by omega, by go_num, fun j hj => ?_, by obtain ⟨q, rfl⟩ := hq3; exact below_drewN HB.out q⟩
          by_cases e : j = k
          · subst e; exact HQ.out
          · exact HK.out j (by omega)
      · rw [decide_eq_false q] at pn
        have hr : R = false := by
          rw [HR.out, List.all_eq_false]
          refine ⟨L[k]!, ?_, by rw [decide_eq_false q]; simp⟩
          rw [getElem!_pos L k (by have := HA.out.len; omega)]
          exact List.getElem_mem _
        subst hr
        clear q
        generalize placeOf V L[k]! = pv at pn hP
        go_wp2_with (go_at_call 20; refine hP.mono ?_; rintro e w3 ⟨rfl, hq3⟩)
        go_ret
        refine ⟨rfl, ?_⟩
        obtain ⟨q, rfl⟩ := hq3
        exact below_drewN (ACC.out.trans ((HB2.out.trans (HB.out.mono HB2.out.size)).mono ACC.out.size)) q
    · have hkn : n = k := by omega
      subst hkn
      have hr : R = true := by
        rw [HR.out, List.all_eq_true]
        intro x hx
        obtain ⟨j, hj, rfl⟩ := List.getElem_of_mem hx
        have := HK.out j (by have := HA.out.len; omega)
        rw [getElem!_pos L j hj] at this
        exact decide_eq_true this
      subst hr
      go_wp2
      go_ret
      exact ⟨rfl, ACC.out.trans ((HB2.out.trans (HB.out.mono HB2.out.size)).mono ACC.out.size)⟩

/-! ### Next -/
theorem rev_find {l : List Str} {f : Str → Bool} {i : Nat} (hi : i < l.length) (h1 : f l[i]! = true) (h2 : ∀ j, i < j → j < l.length → f l[j]! = false) : l.reverse.find? f = some l[i]! := by
  rw [getElem!_pos l i hi] at h1 ⊢
  rw [List.find?_eq_some_iff_getElem]
  refine ⟨h1, l.length - 1 - i, by simp; omega, ?_, fun j hj => ?_⟩
  · rw [List.getElem_reverse]
    congr 1
    omega
  · rw [List.getElem_reverse]
    have := h2 (l.length - 1 - j) (by omega) (by omega)
    rw [getElem!_pos l _ (by omega)] at this
    simp [this]
theorem rev_find_none {l : List Str} {f : Str → Bool} (h : ∀ j, j < l.length → f l[j]! = false) : l.reverse.find? f = none := by
  rw [List.find?_eq_none]
  intro x hx
  obtain ⟨j, hj, rfl⟩ := List.getElem_of_mem (List.mem_reverse.1 hx)
  have := h j hj
  rw [getElem!_pos l j hj] at this
  simp [this]
theorem take1_find {l : List Str} {f : Str → Bool} (h : 0 < l.length) : (l.take 1).reverse.find? f = if f l[0]! then some l[0]! else none := by
  cases l with
  | nil => simp at h
  | cons y r =>
    have e : (y :: r)[0]! = y := rfl
    rw [e]
    cases hf : f y <;> simp [hf]
theorem own_empty {w : World} : (w.alloc (.cells #[] 9)).ownsRow w.heap.size 9 1 (.slice (some ⟨w.heap.size, 0, none⟩) 0 0) 0 (strs []) :=
  World.ownsRow_lit w #[] 0 (Nat.le_refl _) (by unfold maxLen; omega) rfl

set_option maxHeartbeats 4000000 in
theorem ref7next_any (w : World) (v : Tv) (T : Topo) (a b : ByteArray) (hT : Tt w v T) (hS : Short T) (hnl : v.nl ≤ 4611686018427387904) (hnp : v.np ≤ 4611686018427387904) (ha : a.size < 90000) (hb : b.size < 90000) :
    Calls Tryz.prog 8 #[.agg #[.slice v.ar v.nr v.cr, .slice v.al v.nl v.cl, .slice v.ap v.np v.cp], .string a, .string b] w fun e w' => e = nextV (nextOf T a.data.toList b.data.toList) ∧ Below w.heap.size w w' := by
  obtain ⟨ar, nr, cr, al, nl, cl, ap, np, cp⟩ := v
  dsimp only at hnl hnp ⊢
  have kab := eq_bytes a b
  by_cases hab : a.data.toList = b.data.toList
  · rw [decide_eq_true hab] at kab
    have hr : nextOf T a.data.toList b.data.toList = none := by unfold nextOf; rw [if_pos hab]
    rw [hr]
    unfold nextV
    clear hr hab
    go_enter Tryz.func8, Tryz.ntmps8
    go_wp2
    go_ret2
    exact ⟨rfl, (Below.refl _ _).alloc (Nat.le_refl _) _⟩
  rw [decide_eq_false hab] at kab
  obtain ⟨w1, hw1⟩ : ∃ w1, w1 = w.alloc (.cells #[.slice ar nr cr, .slice al nl cl, .slice ap np cp] 26) := ⟨_, rfl⟩
  obtain ⟨acc0, hz, kp⟩ := box_keep hw1
  have keep : ∀ W, Below w1.heap.size w1 W → W.cell? ⟨w.heap.size, 0, none⟩ = some (.slice ar nr cr) ∧ W.cell? ⟨w.heap.size, 1, none⟩ = some (.slice al nl cl) ∧ W.cell? ⟨w.heap.size, 2, none⟩ = some (.slice ap np cp) := fun W h => ⟨kp W h 0 _ rfl, kp W h 1 _ rfl, kp W h 2 _ rfl⟩
  have hVIA := fun W (h : Below w1.heap.size w1 W) => ref7via_any W ⟨ar, nr, cr, al, nl, cl, ap, np, cp⟩ T a b ((hT.below acc0).below h) hnp ha hb
  have hLAID := fun W (h : Below w1.heap.size w1 W) => ref7laid_any W ⟨ar, nr, cr, al, nl, cl, ap, np, cp⟩ T a b ((hT.below acc0).below h) hnp
  have hLNK := fun (x : ByteArray) W (h : Below w1.heap.size w1 W) => refLinked_any W ⟨ar, nr, cr, al, nl, cl, ap, np, cp⟩ T a x ((hT.below acc0).below h) hnl
  dsimp only at hVIA hLAID hLNK
  have hVl := via_len hS a.data.toList b.data.toList
  obtain ⟨R, hR⟩ : ∃ R, R = nextOf T a.data.toList b.data.toList := ⟨_, rfl⟩
  rw [← hR]
  obtain ⟨w2, hw2⟩ : ∃ w2, w2 = w1.alloc (.cells #[] 9) := ⟨_, rfl⟩
  have own2 : w2.ownsRow w1.heap.size 9 1 (.slice (some ⟨w1.heap.size, 0, none⟩) 0 0) 0 (strs []) := by rw [hw2]; exact own_empty
  have acc2 : Below w1.heap.size w1 w2 := by rw [hw2]; exact (Below.refl _ _).alloc (Nat.le_refl _) _
  have hz1 : w1.heap.size = w.heap.size + 1 := by rw [hw1]; simp
  obtain ⟨V, hVe⟩ : ∃ V, V = viaOf T a.data.toList b.data.toList := ⟨_, rfl⟩
  rw [← hVe] at hVIA hVl
  obtain ⟨m, hm⟩ : ∃ m, m = V.length := ⟨_, rfl⟩
  rw [← hm] at hVIA hVl
  have HR := Lib.hid hR
  have HVE := Lib.hid hVe
  have HM := Lib.hid hm
  have HVIA := Lib.hid hVIA
  have HLAID := Lib.hid hLAID
  have HLNK := Lib.hid hLNK
  have KEEP := Lib.hid keep
  have ACC := Lib.hid acc0
  have HW1 := Lib.hid hw1
  have HW2 := Lib.hid hw2
  have OWN2 := Lib.hid own2
  have ACC2 := Lib.hid acc2
  have HZ1 := Lib.hid hz1
  have HAB := Lib.hid hab
  clear hab hT hS hR hVe hm hVIA hLAID hLNK keep acc0 hw1 hw2 own2 acc2 hz1 hz kp
  rcases laid_ix (T := T) (a := a.data.toList) (b := b.data.toList) with ⟨h1, h2⟩ | ⟨k, hk, h2, h1⟩
  · have hRR : R = (V ++ [b.data.toList]).reverse.find? fun r => linkedOf T a.data.toList r := by
      rw [HR.out, HVE.out]
      unfold nextOf wayTo viaOf
      rw [if_neg HAB.out, h1]
    have HRR := Lib.hid hRR
    have H2 := Lib.hid h2
    clear h1 h2 hRR HR
    go_enter Tryz.func8, Tryz.ntmps8
    go_wp2_with (first
      | (go_at_call 15; rw [← HW1.out, ← HW2.out, ← HZ1.out]; refine (HVIA.out _ ACC2.out).mono ?_; rintro e w5 ⟨ad, c, rfl, hAV, hb5⟩)
      | (at_builtin; refine wpList_append_texts _ rfl (.tmp 13) (.tmp 17) rfl w1.heap.size (some ⟨w1.heap.size, 0, none⟩) 0 0 [] rfl (own_below OWN2.out hb5) ad m c V rfl hAV (by omega) (by omega) (Nat.le_trans ACC2.out.size hb5.size) ?_; intro ad6 c6 w6 hown6 hb6; rw [Nat.zero_add] at hown6 ⊢; rw [List.nil_append] at hown6; have acc6 : Below w1.heap.size w1 w6 := (ACC2.out.trans (hb5.mono ACC2.out.size)).trans hb6; clear hb6 hb5 hAV)
      | (at_builtin; refine wpList_append_text _ rfl (.tmp 18) (.tmp 20) rfl w1.heap.size ad6 m c6 V rfl (hown6.alloc _) w6.heap.size b.data.toList rfl (heap_alloc_new _ _) (by omega) (by have := acc6.size; simp; omega) ?_; intro g7 c7 w7 hown7 hb7; have acc7 : Below w1.heap.size w1 w7 := acc6.trans (((Below.refl _ _).alloc acc6.size _).trans hb7); clear hb7 hown6; obtain ⟨a0, a1, a2⟩ := KEEP.out w7 acc7)
      | (go_at_call 24; refine (HLAID.out _ acc7).mono ?_; rintro e w8 ⟨rfl, hb8⟩; rw [H2.out]))
    have acc8 : Below w1.heap.size w1 w8 := acc7.trans (hb8.mono acc7.size)
    have hAt := (At.owns hown7).below hb8
    have hcap := own_cap hown7
    obtain ⟨l, hl⟩ : ∃ l, l = V ++ [b.data.toList] := ⟨_, rfl⟩
    rw [← hl] at hAt
    have hll := hAt.len
    obtain ⟨gb, go, hge, hgl, hgc⟩ := hAt.cell (by omega)
    simp only [Option.some.injEq, Addr.mk.injEq] at hge
    obtain ⟨rfl, rfl, _⟩ := hge
    have hRl := HRR.out
    rw [← hl] at hRl
    have HRL := Lib.hid hRl
    have HLL := Lib.hid hll
    have HGC := Lib.hid hgc
    have AC8 := Lib.hid acc8
    have hcz : (1 : Int) ≤ (m : Int) + 1 := by omega
    clear hAt hl hll hgc hRl hown7 hb8 acc8 acc7 a0 a1 a2 HRR hcap
    go_loopg [9] (m + 1) (fun gg s9 wr => ∃ k : Nat, k ≤ m + 1 ∧ k ≤ gg ∧ (∃ z : Int, s9 = .int .i64 z ∧ z = (k : Int) - 1) ∧ Aside (∀ j, k ≤ j → j < m + 1 → linkedOf T a.data.toList l[j]! = false) ∧ Aside (Below w8.heap.size w8 wr))
    case atStart => exact ⟨m + 1, by omega, by omega, ⟨m, rfl, by omega⟩, fun j h1 h2 => absurd h2 (by omega), Below.refl _ _⟩
    case round =>
      obtain ⟨k, hk, hgg, ⟨z, rfl, hzk⟩, HK, HB⟩ := hrel
      have HBB := Lib.hid (AC8.out.trans (HB.out.mono AC8.out.size))
      cases k with
      | zero =>
        have hz1 : z = -1 := by omega
        subst hz1
        have hr : R = none := by
          rw [HRL.out]
          exact rev_find_none fun j hj => HK.out j (Nat.zero_le _) (by have := HLL.out; omega)
        subst hr
        clear hzk
        go_wp2
        go_ret2
        exact ⟨rfl, ACC.out.trans (HBB.out.mono ACC.out.size)⟩
      | succ i =>
        have hzi : z = (i : Int) := by omega
        subst hzi
        have hlt : i < m + 1 := by omega
        have hltz : (i : Int) < (m : Int) + 1 := by omega
        have hi0 : (0 : Int) ≤ (i : Int) := by omega
        have hwr : IntKind.i64.wrap ((i : Int) - 1) = (i : Int) - 1 := by rw [IntKind.wrap_i64]; omega
        obtain ⟨x, hx⟩ : ∃ x : ByteArray, x = ⟨l[i]!.toArray⟩ := ⟨_, rfl⟩
        have hxd : x.data.toList = l[i]! := by rw [hx]
        have kx := HGC.out i hlt
        rw [← hx, Nat.zero_add] at kx
        have keep2 : ∀ W, Below wr.heap.size wr W → (W.cell? ⟨w.heap.size, 0, none⟩ = some (.slice ar nr cr) ∧ W.cell? ⟨w.heap.size, 1, none⟩ = some (.slice al nl cl) ∧ W.cell? ⟨w.heap.size, 2, none⟩ = some (.slice ap np cp)) ∧ W.cell? ⟨g7, i, none⟩ = some (.string x) := fun W hW => ⟨KEEP.out W (HBB.out.trans (hW.mono HBB.out.size)), (hW.cell (p := ⟨_, i, none⟩) (Nat.lt_of_lt_of_le hgl HB.out.size)).trans ((HB.out.cell (p := ⟨_, i, none⟩) hgl).trans kx)⟩
        have KP2 := Lib.hid keep2
        have acc1 := (Below.refl wr.heap.size wr).drew
        have HX := Lib.hid hx
        have HXD := Lib.hid hxd
        clear hx hxd kx keep2 hzk
        cases hlk : linkedOf T a.data.toList x.data.toList with
        | false =>
          have HLK := Lib.hid hlk
          clear hlk
          go_wp2_with fail
          go_region_held3 (fun W => (W.cell? ⟨w.heap.size, 0, none⟩ = some (.slice ar nr cr) ∧ W.cell? ⟨w.heap.size, 1, none⟩ = some (.slice al nl cl) ∧ W.cell? ⟨w.heap.size, 2, none⟩ = some (.slice ap np cp)) ∧ W.cell? ⟨g7, i, none⟩ = some (.string x)) (first | exact KP2.out _ acc1 | go_keep)
            (first
              | (go_at_call 12; refine (HLNK.out x _ (HBB.out.trans (acc1.mono HBB.out.size))).mono ?_; rintro e w11 ⟨rfl, hb11⟩; rw [HLK.out]; replace acc1 := acc1.trans (hb11.mono acc1.size); clear hb11))
          go_wp2
          go_roundg i
          case measure => omega
          case rel =>
            refine ⟨i, by omega, by omega, ⟨(i : Int) - 1, rfl, rfl⟩, fun j h1 h2 => ?_, HB.out.trans (acc1.mono HB.out.size)⟩
            by_cases e : j = i
            · subst e; rw [← HXD.out]; exact HLK.out
            · exact HK.out j (by omega) h2
        | true =>
          have hr : R = some l[i]! := by
            rw [HRL.out]
            exact rev_find (f := fun r => linkedOf T a.data.toList r) (by have := HLL.out; omega) (by rw [← hlk, HXD.out]) (fun j h1 h2 => HK.out j (by omega) (by have := HLL.out; omega))
          subst hr
          have HLK := Lib.hid hlk
          clear hlk
          go_wp2_with fail
          go_region_held3 (fun W => (W.cell? ⟨w.heap.size, 0, none⟩ = some (.slice ar nr cr) ∧ W.cell? ⟨w.heap.size, 1, none⟩ = some (.slice al nl cl) ∧ W.cell? ⟨w.heap.size, 2, none⟩ = some (.slice ap np cp)) ∧ W.cell? ⟨g7, i, none⟩ = some (.string x)) (first | exact KP2.out _ acc1 | go_keep)
            (first
              | (go_at_call 12; refine (HLNK.out x _ (HBB.out.trans (acc1.mono HBB.out.size))).mono ?_; rintro e w11 ⟨rfl, hb11⟩; rw [HLK.out]; replace acc1 := acc1.trans (hb11.mono acc1.size); clear hb11))
          obtain ⟨⟨a0, a1, a2⟩, a3⟩ := KP2.out _ acc1
          go_wp2
          go_ret2
          exact ⟨by rw [HX.out]; rfl, ACC.out.trans ((HBB.out.trans (acc1.mono HBB.out.size)).mono ACC.out.size)⟩
  · have hRR : R = ((V ++ [b.data.toList]).take 1).reverse.find? fun r => linkedOf T a.data.toList r := by
      rw [HR.out, HVE.out]
      unfold nextOf wayTo viaOf
      rw [if_neg HAB.out, h1]
    have HRR := Lib.hid hRR
    have H2 := Lib.hid h2
    have hk0 : (0 : Int) ≤ (k : Int) := by omega
    clear h1 h2 hk hRR HR
    go_enter Tryz.func8, Tryz.ntmps8
    go_wp2_with (first
      | (go_at_call 15; rw [← HW1.out, ← HW2.out, ← HZ1.out]; refine (HVIA.out _ ACC2.out).mono ?_; rintro e w5 ⟨ad, c, rfl, hAV, hb5⟩)
      | (at_builtin; refine wpList_append_texts _ rfl (.tmp 13) (.tmp 17) rfl w1.heap.size (some ⟨w1.heap.size, 0, none⟩) 0 0 [] rfl (own_below OWN2.out hb5) ad m c V rfl hAV (by omega) (by omega) (Nat.le_trans ACC2.out.size hb5.size) ?_; intro ad6 c6 w6 hown6 hb6; rw [Nat.zero_add] at hown6 ⊢; rw [List.nil_append] at hown6; have acc6 : Below w1.heap.size w1 w6 := (ACC2.out.trans (hb5.mono ACC2.out.size)).trans hb6; clear hb6 hb5 hAV)
      | (at_builtin; refine wpList_append_text _ rfl (.tmp 18) (.tmp 20) rfl w1.heap.size ad6 m c6 V rfl (hown6.alloc _) w6.heap.size b.data.toList rfl (heap_alloc_new _ _) (by omega) (by have := acc6.size; simp; omega) ?_; intro g7 c7 w7 hown7 hb7; have acc7 : Below w1.heap.size w1 w7 := acc6.trans (((Below.refl _ _).alloc acc6.size _).trans hb7); clear hb7 hown6; obtain ⟨a0, a1, a2⟩ := KEEP.out w7 acc7)
      | (go_at_call 24; refine (HLAID.out _ acc7).mono ?_; rintro e w8 ⟨rfl, hb8⟩; rw [H2.out]))
    have acc8 : Below w1.heap.size w1 w8 := acc7.trans (hb8.mono acc7.size)
    have hAt := (At.owns hown7).below hb8
    have hcap := own_cap hown7
    obtain ⟨l, hl⟩ : ∃ l, l = V ++ [b.data.toList] := ⟨_, rfl⟩
    rw [← hl] at hAt
    have hll := hAt.len
    obtain ⟨gb, go, hge, hgl, hgc⟩ := hAt.cell (by omega)
    simp only [Option.some.injEq, Addr.mk.injEq] at hge
    obtain ⟨rfl, rfl, _⟩ := hge
    have hRl := HRR.out
    rw [← hl] at hRl
    have HRL := Lib.hid hRl
    have HLL := Lib.hid hll
    have HGC := Lib.hid hgc
    have AC8 := Lib.hid acc8
    have hcz : (1 : Int) ≤ (m : Int) + 1 := by omega
    clear hAt hl hll hgc hRl hown7 hb8 acc8 acc7 a0 a1 a2 HRR hcap
    obtain ⟨x, hx⟩ : ∃ x : ByteArray, x = ⟨l[0]!.toArray⟩ := ⟨_, rfl⟩
    have hxd : x.data.toList = l[0]! := by rw [hx]
    have kx := HGC.out 0 (by omega)
    rw [← hx] at kx
    have keep2 : ∀ W, Below w8.heap.size w8 W → (W.cell? ⟨w.heap.size, 0, none⟩ = some (.slice ar nr cr) ∧ W.cell? ⟨w.heap.size, 1, none⟩ = some (.slice al nl cl) ∧ W.cell? ⟨w.heap.size, 2, none⟩ = some (.slice ap np cp)) ∧ W.cell? ⟨g7, 0, none⟩ = some (.string x) := fun W hW => ⟨KEEP.out W (AC8.out.trans (hW.mono AC8.out.size)), (hW.cell (p := ⟨_, 0, none⟩) hgl).trans kx⟩
    have KP2 := Lib.hid keep2
    have acc1 := (Below.refl w8.heap.size w8).drew
    have HX := Lib.hid hx
    have HXD := Lib.hid hxd
    have hm0 : (0 : Int) < (m : Int) + 1 := by omega
    clear hx hxd kx keep2
    have hfi := take1_find (l := l) (f := fun r => linkedOf T a.data.toList r) (by have := HLL.out; omega)
    cases hlk : linkedOf T a.data.toList x.data.toList with
    | false =>
      have hr : R = none := by
        rw [HRL.out, hfi]
        rw [← HXD.out, hlk]
        rfl
      subst hr
      have HLK := Lib.hid hlk
      clear hlk hfi
      go_wp2_with fail
      go_region_held3 (fun W => (W.cell? ⟨w.heap.size, 0, none⟩ = some (.slice ar nr cr) ∧ W.cell? ⟨w.heap.size, 1, none⟩ = some (.slice al nl cl) ∧ W.cell? ⟨w.heap.size, 2, none⟩ = some (.slice ap np cp)) ∧ W.cell? ⟨g7, 0, none⟩ = some (.string x)) (first | exact KP2.out _ acc1 | go_keep)
        (first
          | (go_at_call 12; refine (HLNK.out x _ (AC8.out.trans (acc1.mono AC8.out.size))).mono ?_; rintro e w11 ⟨rfl, hb11⟩; rw [HLK.out]; replace acc1 := acc1.trans (hb11.mono acc1.size); clear hb11))
      go_wp2
      go_ret2
      exact ⟨rfl, ACC.out.trans ((AC8.out.trans (acc1.mono AC8.out.size)).mono ACC.out.size)⟩
    | true =>
      have hr : R = some l[0]! := by
        rw [HRL.out, hfi]
        rw [← HXD.out, hlk]
        rfl
      subst hr
      have HLK := Lib.hid hlk
      clear hlk hfi
      go_wp2_with fail
      go_region_held3 (fun W => (W.cell? ⟨w.heap.size, 0, none⟩ = some (.slice ar nr cr) ∧ W.cell? ⟨w.heap.size, 1, none⟩ = some (.slice al nl cl) ∧ W.cell? ⟨w.heap.size, 2, none⟩ = some (.slice ap np cp)) ∧ W.cell? ⟨g7, 0, none⟩ = some (.string x)) (first | exact KP2.out _ acc1 | go_keep)
        (first
          | (go_at_call 12; refine (HLNK.out x _ (AC8.out.trans (acc1.mono AC8.out.size))).mono ?_; rintro e w11 ⟨rfl, hb11⟩; rw [HLK.out]; replace acc1 := acc1.trans (hb11.mono acc1.size); clear hb11))
      obtain ⟨⟨a0, a1, a2⟩, a3⟩ := KP2.out _ acc1
      go_wp2
      go_ret2
      exact ⟨by rw [HX.out]; rfl, ACC.out.trans ((AC8.out.trans (acc1.mono AC8.out.size)).mono ACC.out.size)⟩

/-! ### Walk -/
theorem wpList_append_far {ops : Array Oper} {rest : List Oper} {o : Oper} {a : Act} {Q : Exit → Act → World → Prop} (w : World) (hgd : o.guard = none) (s x : Operand)
    (ho : o.op = .call { callee := .builtin .append, args := #[s, x], argTypes := #[22, 22] }) (base : Nat) (ad : Option Addr) (n c : Nat) (l : List Str) (hs : a.eval s = .slice ad n c) (hown : w.ownsRow base 9 1 (.slice ad n c) n (strs l))
    (blk : Nat) (y : Str) (hx : a.eval x = .slice (some ⟨blk, 0, none⟩) 1 1) (hblk : w.heap[blk]? = some (.cells #[.string ⟨y.toArray⟩] 9 (0, 0))) (hn : n ≤ 100000) (hbase : base ≤ w.heap.size)
    (h : ∀ g cap w', w'.ownsRow base 9 1 (.slice (some ⟨g, 0, none⟩) (n + 1) cap) (n + 1) (strs (l ++ [y])) → Below base w w' → w.grownBy w' (Value.slice ad n c).ownBlock → ((Value.slice ad n c).ownBlock = some g ∨ g = w.heap.size) → wpList Tryz.prog ops Q rest (a.put o.dst (.slice (some ⟨g, 0, none⟩) (n + 1) cap)) w') : wpList Tryz.prog ops Q (o :: rest) a w := by
  have hI := info_str
  rw [Option.map_eq_some_iff] at hI
  obtain ⟨i0, hi, he⟩ := hI
  simp only [Prod.mk.injEq] at he
  refine wpList_append_lies w hgd s x 22 ho base 9 i0 (.string ⟨#[]⟩) 1 16 Tryz.underlying22 hi he.1 he.2.1 he.2.2 rfl (by decide) (.slice ad n c) n (strs l) hs hown ⟨blk, 0, none⟩ 1 1 [.string ⟨y.toArray⟩] hx rfl (World.news_of_block (cs := #[.string ⟨y.toArray⟩]) hblk) (fun u hu => by simp at hu; subst hu; rfl) (by decide) (by unfold maxLen; omega) (by omega) hbase _ rfl ?_
  intro g cap w' hown' hgrow hat hlt
  refine h g cap w' ?_ ((Below.refl base w).grown hgrow hbase (fun k hk => (hown.lt k hk).1)) hgrow hat
  rw [show strs (l ++ [y]) = strs l ++ [.string ⟨y.toArray⟩] by simp [strs, strv]]
  exact hown'

theorem two_rows {w w' : World} {base g n c g6 m : Nat} {v : Value} {l : List Str} (hL : w.ownsRow base 9 1 v m (strs l)) (hD : v.ownBlock ≠ some g) (hgr : w.grownBy w' (Value.slice (some ⟨g, 0, none⟩) n c).ownBlock) (hor : (Value.slice (some ⟨g, 0, none⟩) n c).ownBlock = some g6 ∨ g6 = w.heap.size) :
    w'.ownsRow base 9 1 v m (strs l) ∧ v.ownBlock ≠ some g6 := by
  refine ⟨World.ownsRow.kept hL hgr (.inr hD), fun e => ?_⟩
  rcases hor with h | h
  · exact hD (e.trans h.symm)
  · have := (hL.lt _ e).2
    omega
theorem two_rows2 {w w' : World} {base g n c g8 : Nat} {v : Value} {l : List Str} (hO : w.ownsRow base 9 1 (.slice (some ⟨g, 0, none⟩) n c) n (strs l)) (hD : v.ownBlock ≠ some g) (hgr : w.grownBy w' v.ownBlock) (hor : v.ownBlock = some g8 ∨ g8 = w.heap.size) {m cap : Nat} :
    w'.ownsRow base 9 1 (.slice (some ⟨g, 0, none⟩) n c) n (strs l) ∧ (Value.slice (some ⟨g8, 0, none⟩) m cap).ownBlock ≠ some g := by
  refine ⟨World.ownsRow.kept hO hgr (.inr fun e => hD e.symm), fun e => ?_⟩
  rcases hor with h | h
  · exact hD (h.trans e)
  · have := (hO.lt g rfl).2
    have e2 : some g8 = some g := e
    simp at e2
    omega

/-- The realms come by, without the ends. -/
def passed (seen : List Str) (x b : Str) : List Str := if x = b then (seen.drop 1).dropLast else seen.drop 1
theorem passed_end {seen : List Str} {x b : Str} (h : x = b) : passed seen x b = (seen.drop 1).dropLast := by unfold passed; rw [if_pos h]
theorem passed_to {seen : List Str} {x b y : Str} (h : x ≠ b) (hs : 1 ≤ seen.length) (hy : y = b) : passed (seen ++ [y]) y b = passed seen x b := by
  unfold passed
  rw [if_pos hy, if_neg h]
  cases seen with
  | nil => simp at hs
  | cons z r => simp
theorem passed_on {seen : List Str} {x b y : Str} (h : x ≠ b) (hs : 1 ≤ seen.length) (hy : y ≠ b) : passed (seen ++ [y]) y b = passed seen x b ++ [y] := by
  unfold passed
  rw [if_neg hy, if_neg h]
  cases seen with
  | nil => simp at hs
  | cons z r => simp
theorem passed_len {seen : List Str} {x b : Str} (h : x ≠ b) : (passed seen x b).length = seen.length - 1 := by unfold passed; rw [if_neg h]; simp

set_option maxHeartbeats 8000000 in
theorem ref7walk_any (w : World) (v : Tv) (T : Topo) (a b : ByteArray) (hT : Tt w v T) (hS : Short T) (hnl : v.nl ≤ 4611686018427387904) (hnp : v.np ≤ 4611686018427387904) (ha : a.size < 90000) (hb : b.size < 90000) :
    Calls Tryz.prog 10 #[.agg #[.slice v.ar v.nr v.cr, .slice v.al v.nl v.cl, .slice v.ap v.np v.cp], .string a, .string b] w fun e w' => WalkPost w w' (walkOf T a.data.toList b.data.toList) e := by
  obtain ⟨ar, nr, cr, al, nl, cl, ap, np, cp⟩ := v
  dsimp only at hnl hnp ⊢
  obtain ⟨w1, hw1⟩ : ∃ w1, w1 = w.alloc (.cells #[.slice ar nr cr, .slice al nl cl, .slice ap np cp] 26) := ⟨_, rfl⟩
  obtain ⟨acc0, hz, kp⟩ := box_keep hw1
  have keep : ∀ W, Below w1.heap.size w1 W → W.cell? ⟨w.heap.size, 0, none⟩ = some (.slice ar nr cr) ∧ W.cell? ⟨w.heap.size, 1, none⟩ = some (.slice al nl cl) ∧ W.cell? ⟨w.heap.size, 2, none⟩ = some (.slice ap np cp) := fun W h => ⟨kp W h 0 _ rfl, kp W h 1 _ rfl, kp W h 2 _ rfl⟩
  have hNX := fun (x : ByteArray) (hx : x.size < 90000) W (h : Below w1.heap.size w1 W) => ref7next_any W ⟨ar, nr, cr, al, nl, cl, ap, np, cp⟩ T x b ((hT.below acc0).below h) hS hnl hnp hx hb
  dsimp only at hNX
  obtain ⟨R, hR⟩ : ∃ R, R = walkOf T a.data.toList b.data.toList := ⟨_, rfl⟩
  rw [← hR]
  have hz1 : w1.heap.size = w.heap.size + 1 := by rw [hw1]; simp
  have HR := Lib.hid hR
  have HNX := Lib.hid hNX
  have HS := Lib.hid hS
  have KEEP := Lib.hid keep
  have ACC := Lib.hid acc0
  have HW1 := Lib.hid hw1
  have HZ1 := Lib.hid hz1
  clear hT hS hR hNX keep acc0 hw1 hz1 hz kp
  go_enter Tryz.func10, Tryz.ntmps10
  go_wp2
  obtain ⟨w2, hw2⟩ : ∃ w2, w2 = (w.alloc (.cells #[.slice ar nr cr, .slice al nl cl, .slice ap np cp] 26)).alloc (.cells #[.string a] 9) := ⟨_, rfl⟩
  have own2 : w2.ownsRow w1.heap.size 9 1 (.slice (some ⟨w.heap.size + 1, 0, none⟩) 1 1) 1 (strs [a.data.toList]) := by
    rw [hw2, ← HW1.out, ← HZ1.out]
    exact wpList_lit_text (w := w1) a.data.toList
  have b2 : Below w1.heap.size w1 w2 := by rw [hw2, ← HW1.out]; exact (Below.refl _ _).alloc (Nat.le_refl _) _
  rw [← hw2]
  have OWN2 := Lib.hid own2
  have B2 := Lib.hid b2
  clear hw2 own2 b2
  go_loopg [8, 9, 10] 8 (fun gg s8 s9 s10 wr => ∃ (seen : List Str) (n : Nat) (x : ByteArray) (g c : Nat) (m : Nat) (adl : Option Addr) (cll : Nat), s8 = .slice adl m cll ∧ s9 = .slice (some ⟨g, 0, none⟩) n c ∧ s10 = .string x ∧ 9 - n ≤ gg + 1 ∧ 1 ≤ n ∧ n ≤ 7 ∧ m ≤ 7 ∧ n ≤ c ∧ x.size < 90000 ∧ Aside (seen.length = n) ∧ Aside (wr.ownsRow w1.heap.size 9 1 (.slice (some ⟨g, 0, none⟩) n c) n (strs seen)) ∧ Aside (wr.ownsRow w1.heap.size 9 1 (.slice adl m cll) m (strs (passed seen x.data.toList b.data.toList))) ∧ Aside ((Value.slice adl m cll).ownBlock ≠ some g) ∧ Aside (Below w1.heap.size w1 wr) ∧ Aside (walkGo T b.data.toList 8 [a.data.toList] a.data.toList = walkGo T b.data.toList (9 - n) seen x.data.toList) ∧ Aside (x.data.toList = b.data.toList ∨ n ≤ 6))
  case atStart => exact ⟨[a.data.toList], 1, a, w.heap.size + 1, 1, 0, none, 0, rfl, rfl, rfl, by simp, by simp, by simp, by simp, by simp, ha, rfl, OWN2.out, (by unfold passed; simp; exact World.ownsRow_nil _ _ _ _), (fun e => by cases e), B2.out, rfl, .inr (by simp)⟩
  case round =>
    obtain ⟨seen, n, x, g, c, m, adl, cll, rfl, rfl, rfl, hgg, h1, h7, hm7, hnc, hx, HN, HO, HL, HD, HB, HW, H6⟩ := hrel
    have kn := neq_bytes x b
    have kx := eq_bytes x b
    by_cases hxb : x.data.toList = b.data.toList
    · rw [decide_eq_true hxb] at kx kn
      obtain ⟨L, hL⟩ : ∃ L, L = passed seen x.data.toList b.data.toList := ⟨_, rfl⟩
      have hRs : R = some L := by
        rw [HR.out, hL, passed_end hxb]
        unfold walkOf
        rw [HW.out, show 9 - n = (8 - n) + 1 by omega, walkGo, if_pos hxb]
        rfl
      subst hRs
      have hA : At wr adl m L := by rw [hL]; exact At.owns HL.out
      have hbw := Lib.hid (ACC.out.trans (HB.out.mono ACC.out.size))
      have hlm := hA.len
      have HA := Lib.hid hA
      have HLM := Lib.hid hlm
      clear hxb HR hL hA hlm
      go_wp2
      go_ret2
      exact ⟨adl, cll, by rw [HLM.out]; rfl, by rw [HLM.out]; exact HA.out, hbw.out⟩
    · rw [decide_eq_false hxb] at kx kn
      have hn6 : n ≤ 6 := by
        rcases H6.out with h | h
        · exact absurd h hxb
        · exact h
      have hmn : m = n - 1 := by
        have := (At.owns HL.out).len
        rw [passed_len hxb, HN.out] at this
        omega
      obtain ⟨a0, a1, a2⟩ := KEEP.out wr HB.out
      have hN := HNX.out x hx wr HB.out
      have hW1 : walkGo T b.data.toList 8 [a.data.toList] a.data.toList = (nextOf T x.data.toList b.data.toList).elim none fun m => if m ∈ seen ∨ (5 < seen.length ∧ m ≠ b.data.toList) then none else walkGo T b.data.toList (8 - n) (seen ++ [m]) m := by
        rw [HW.out, show 9 - n = (8 - n) + 1 by omega, walkGo_next _ _ hxb]
      have hshort := fun m (h : nextOf T x.data.toList b.data.toList = some m) => next_short HS.out (show b.data.toList.length < 90000 from hb) h
      have HXB := Lib.hid hxb
      have HMN := Lib.hid hmn
      have ACR := Lib.hid (ACC.out.trans (HB.out.mono ACC.out.size))
      clear hxb HW H6 hmn
      cases hnx : nextOf T x.data.toList b.data.toList with
      | none =>
        rw [hnx] at hN hW1
        have hRs : R = none := by
          rw [HR.out]
          unfold walkOf
          rw [hW1]
          rfl
        subst hRs
        unfold nextV at hN
        simp only at hN
        clear hnx hW1 hshort HR
        go_wp2_with (go_at_call 8; refine hN.mono ?_; rintro e w3 ⟨rfl, hb3⟩)
        go_ret2
        exact ⟨rfl, ACR.out.trans (hb3.mono ACR.out.size)⟩
      | some y =>
        rw [hnx] at hN hW1
        have hys : y.length < 90000 := hshort y hnx
        unfold nextV at hN
        simp only [Option.elim] at hN hW1
        have pp := place_pos seen y
        clear hnx hshort
        by_cases hin : y ∈ seen
        · rw [decide_eq_true hin] at pp
          have hRs : R = none := by
            rw [HR.out]
            unfold walkOf
            rw [hW1, if_pos (.inl hin)]
            rfl
          subst hRs
          clear hW1 hin HR
          have hPL := fun W hA => place_any W (some ⟨g, 0, none⟩) n c seen ⟨y.toArray⟩ hA (by omega)
          dsimp only at hPL
          generalize placeOf seen y = pv at pp hPL
          go_wp2_with (first
            | (go_at_call 8; refine hN.mono ?_; rintro e w3 ⟨rfl, hb3⟩)
            | (go_at_call 20; refine (hPL _ (At.owns (own_below HO.out hb3))).mono ?_; rintro e w4 ⟨rfl, hq4⟩))
          go_ret2
          refine ⟨rfl, ?_⟩
          obtain ⟨q, rfl⟩ := hq4
          exact below_drewN (ACR.out.trans (hb3.mono ACR.out.size)) q
        · rw [decide_eq_false hin] at pp
          have hPL := fun W hA => place_any W (some ⟨g, 0, none⟩) n c seen ⟨y.toArray⟩ hA (by omega)
          dsimp only at hPL
          have kyn : ((⟨y.toArray⟩ : ByteArray).toList != b.toList) = !decide (y = b.data.toList) := neq_bytes ⟨y.toArray⟩ b
          have ky2 : (y == b.toList) = decide (y = b.data.toList) := by rw [ByteArray.toList_eq, Bool.eq_iff_iff]; simp
          generalize placeOf seen y = pv at pp hPL
          have HPL := Lib.hid hPL
          clear hPL
          by_cases hyb : y = b.data.toList
          · have hW2 : walkGo T b.data.toList 8 [a.data.toList] a.data.toList = walkGo T b.data.toList (9 - (n + 1)) (seen ++ [y]) (⟨y.toArray⟩ : ByteArray).data.toList := by
              rw [hW1, if_neg (by rintro (h | h); exact hin h; exact h.2 hyb), show 9 - (n + 1) = 8 - n by omega]
            have HW2 := Lib.hid hW2
            have hpl : passed (seen ++ [y]) y b.data.toList = passed seen x.data.toList b.data.toList := passed_to HXB.out (by have := HN.out; omega) hyb
            have HPT := Lib.hid hpl
            have HYB := Lib.hid hyb
            have h5z : ¬ (5 : Int) < (m : Int) := by have := HMN.out; omega
            rw [decide_eq_true hyb] at kyn ky2
            clear hW1 hW2 hin hpl hyb
            go_wp2_with (first
              | (go_at_call 8; refine hN.mono ?_; rintro e w3 ⟨rfl, hb3⟩)
              | (go_at_call 20; refine (HPL.out _ (At.owns (own_below HO.out hb3))).mono ?_; rintro e w4 ⟨rfl, hq4⟩; have b4 : Below wr.heap.size wr w4 := (by obtain ⟨q, rfl⟩ := hq4; exact below_drewN hb3 q); clear hq4 hb3)
              | (at_builtin; refine wpList_append_far _ rfl (.tmp 34) (.tmp 36) rfl w1.heap.size (some ⟨g, 0, none⟩) n c seen rfl ((own_below HO.out b4).alloc _) w4.heap.size y rfl (heap_alloc_new _ _) (by omega) (by have := b4.size; have := HB.out.size; simp; omega) ?_; intro g6 cap6 w6 hown6 hb6 hgr6 hor6; obtain ⟨hL6, hD6⟩ := two_rows ((own_below HL.out b4).alloc _) HD.out hgr6 hor6; have hbb : Below w1.heap.size w1 w6 := (HB.out.trans (b4.mono HB.out.size)).trans (((Below.refl _ _).alloc (Nat.le_trans HB.out.size b4.size) _).trans hb6); have HO6 := Lib.hid hown6; have HL6 := Lib.hid hL6; have HD6 := Lib.hid hD6; have HB6 := Lib.hid hbb; have HC6 := Lib.hid (own_cap hown6); clear hown6 hb6 hgr6 hor6 hL6 hD6 hbb b4))
            go_roundg (8 - (n + 1))
            case measure => omega
            case rel => exact ⟨seen ++ [y], n + 1, ⟨y.toArray⟩, g6, cap6, m, adl, cll, rfl, rfl, rfl, by omega, by omega, by omega, hm7, HC6.out, hys, by have := HN.out; simp; omega, HO6.out, (by show Aside (World.ownsRow _ _ _ _ _ _ (strs (passed (seen ++ [y]) y b.data.toList))); rw [HPT.out]; exact HL6.out), HD6.out, HB6.out, HW2.out, .inl HYB.out⟩
          · have hpl : passed (seen ++ [y]) y b.data.toList = passed seen x.data.toList b.data.toList ++ [y] := passed_on HXB.out (by have := HN.out; omega) hyb
            have HPT := Lib.hid hpl
            rw [decide_eq_false hyb] at kyn ky2
            by_cases h5 : 5 < n
            · have h5z : (5 : Int) < ((m : Int) + 1) := by have := HMN.out; omega
              have h5n : 5 < m + 1 := by omega
              have hRs : R = none := by
                rw [HR.out]
                unfold walkOf
                rw [hW1, if_pos (.inr ⟨by rw [HN.out]; exact h5, hyb⟩)]
                rfl
              subst hRs
              clear hW1 hin hpl hyb HR
              go_wp2_with (first
              | (go_at_call 8; refine hN.mono ?_; rintro e w3 ⟨rfl, hb3⟩)
              | (go_at_call 20; refine (HPL.out _ (At.owns (own_below HO.out hb3))).mono ?_; rintro e w4 ⟨rfl, hq4⟩; have b4 : Below wr.heap.size wr w4 := (by obtain ⟨q, rfl⟩ := hq4; exact below_drewN hb3 q); clear hq4 hb3)
              | (at_builtin; refine wpList_append_far _ rfl (.tmp 34) (.tmp 36) rfl w1.heap.size (some ⟨g, 0, none⟩) n c seen rfl ((own_below HO.out b4).alloc _) w4.heap.size y rfl (heap_alloc_new _ _) (by omega) (by have := b4.size; have := HB.out.size; simp; omega) ?_; intro g6 cap6 w6 hown6 hb6 hgr6 hor6; obtain ⟨hL6, hD6⟩ := two_rows ((own_below HL.out b4).alloc _) HD.out hgr6 hor6; have hbb : Below w1.heap.size w1 w6 := (HB.out.trans (b4.mono HB.out.size)).trans (((Below.refl _ _).alloc (Nat.le_trans HB.out.size b4.size) _).trans hb6); have HO6 := Lib.hid hown6; have HL6 := Lib.hid hL6; have HD6 := Lib.hid hD6; have HB6 := Lib.hid hbb; have HC6 := Lib.hid (own_cap hown6); clear hown6 hb6 hgr6 hor6 hL6 hD6 hbb b4)
              | (at_builtin; refine wpList_append_far _ rfl (.tmp 42) (.tmp 44) rfl w1.heap.size adl m cll (passed seen x.data.toList b.data.toList) rfl (HL6.out.alloc _) w6.heap.size y rfl (heap_alloc_new _ _) (by omega) (by have := HB6.out.size; simp; omega) ?_; intro g8 cap8 w8 hown8 hb8 hgr8 hor8; obtain ⟨hO8, hD8⟩ := two_rows2 (m := m + 1) (cap := cap8) (HO6.out.alloc _) HD6.out hgr8 hor8; have hbb : Below w1.heap.size w1 w8 := HB6.out.trans (((Below.refl _ _).alloc HB6.out.size _).trans hb8); have HO8 := Lib.hid hO8; have HL8 := Lib.hid hown8; have HD8 := Lib.hid hD8; have HB8 := Lib.hid hbb; clear hown8 hb8 hgr8 hor8 hO8 hD8 hbb))
              go_ret2
              exact ⟨rfl, ACC.out.trans (HB8.out.mono ACC.out.size)⟩
            · have hW2 : walkGo T b.data.toList 8 [a.data.toList] a.data.toList = walkGo T b.data.toList (9 - (n + 1)) (seen ++ [y]) (⟨y.toArray⟩ : ByteArray).data.toList := by
                rw [hW1, if_neg (by rw [HN.out]; rintro (h | h); exact hin h; exact h5 h.1), show 9 - (n + 1) = 8 - n by omega]
              have HW2 := Lib.hid hW2
              have h5z : ¬ (5 : Int) < ((m : Int) + 1) := by have := HMN.out; omega
              have h5n : ¬ 5 < m + 1 := by have := HMN.out; omega
              clear hW1 hW2 hin hpl hyb
              go_wp2_with (first
              | (go_at_call 8; refine hN.mono ?_; rintro e w3 ⟨rfl, hb3⟩)
              | (go_at_call 20; refine (HPL.out _ (At.owns (own_below HO.out hb3))).mono ?_; rintro e w4 ⟨rfl, hq4⟩; have b4 : Below wr.heap.size wr w4 := (by obtain ⟨q, rfl⟩ := hq4; exact below_drewN hb3 q); clear hq4 hb3)
              | (at_builtin; refine wpList_append_far _ rfl (.tmp 34) (.tmp 36) rfl w1.heap.size (some ⟨g, 0, none⟩) n c seen rfl ((own_below HO.out b4).alloc _) w4.heap.size y rfl (heap_alloc_new _ _) (by omega) (by have := b4.size; have := HB.out.size; simp; omega) ?_; intro g6 cap6 w6 hown6 hb6 hgr6 hor6; obtain ⟨hL6, hD6⟩ := two_rows ((own_below HL.out b4).alloc _) HD.out hgr6 hor6; have hbb : Below w1.heap.size w1 w6 := (HB.out.trans (b4.mono HB.out.size)).trans (((Below.refl _ _).alloc (Nat.le_trans HB.out.size b4.size) _).trans hb6); have HO6 := Lib.hid hown6; have HL6 := Lib.hid hL6; have HD6 := Lib.hid hD6; have HB6 := Lib.hid hbb; have HC6 := Lib.hid (own_cap hown6); clear hown6 hb6 hgr6 hor6 hL6 hD6 hbb b4)
              | (at_builtin; refine wpList_append_far _ rfl (.tmp 42) (.tmp 44) rfl w1.heap.size adl m cll (passed seen x.data.toList b.data.toList) rfl (HL6.out.alloc _) w6.heap.size y rfl (heap_alloc_new _ _) (by omega) (by have := HB6.out.size; simp; omega) ?_; intro g8 cap8 w8 hown8 hb8 hgr8 hor8; obtain ⟨hO8, hD8⟩ := two_rows2 (m := m + 1) (cap := cap8) (HO6.out.alloc _) HD6.out hgr8 hor8; have hbb : Below w1.heap.size w1 w8 := HB6.out.trans (((Below.refl _ _).alloc HB6.out.size _).trans hb8); have HO8 := Lib.hid hO8; have HL8 := Lib.hid hown8; have HD8 := Lib.hid hD8; have HB8 := Lib.hid hbb; clear hown8 hb8 hgr8 hor8 hO8 hD8 hbb))
              go_roundg (8 - (n + 1))
              case measure => omega
              case rel => exact ⟨seen ++ [y], n + 1, ⟨y.toArray⟩, g6, cap6, m + 1, some ⟨g8, 0, none⟩, cap8, rfl, rfl, rfl, by omega, by omega, by omega, by omega, HC6.out, hys, by have := HN.out; simp; omega, HO8.out, (by show Aside (World.ownsRow _ _ _ _ _ _ (strs (passed (seen ++ [y]) y b.data.toList))); rw [HPT.out]; exact HL8.out), HD8.out, HB8.out, HW2.out, .inr (by omega)⟩

end Go.Proofs.YtcleonpckgfdhaaGreatDoor
