/-
  legateref7.Is.
-/
import Derived.Test.YtcleonpckgfdhaaGreatDoorRtRefPath
set_option linter.unusedVariables false
set_option linter.unusedSimpArgs false
set_option maxRecDepth 100000
namespace Go.Proofs.YtcleonpckgfdhaaGreatDoor
open Go Go.RowKit Go.Lib Go.Shelf

theorem map_nodup_at (P : List Way) : (P.map (·.1)).Nodup ↔ ∀ i, i < P.length → ∀ j, j < i → P[j]!.1 ≠ P[i]!.1 := by
  rw [nodup_at]
  have get : ∀ i, i < P.length → (P.map (·.1))[i]! = P[i]!.1 := fun i hi => by
    rw [getElem!_pos _ i (by simpa using hi), getElem!_pos P i hi, List.getElem_map]
  constructor
  · intro h i hi j hj e
    refine h i (by simpa using hi) ?_
    rw [get i hi, ← e, ← get j (by omega), getElem!_pos _ j (by simp; omega)]
    exact List.mem_take_iff_getElem.2 ⟨j, by simp; omega, rfl⟩
  · intro h i hi hm
    have hi2 : i < P.length := by simpa using hi
    obtain ⟨j, hj, e⟩ := List.mem_take_iff_getElem.1 hm
    rw [get i hi2, List.getElem_map, ← getElem!_pos P j (by simp at hj; omega)] at e
    exact h i hi2 j (by simp at hj; omega) e
theorem nodup_lt (L : List Link) : L.Nodup ↔ ∀ i, i < L.length → ∀ j, j < i → L[j]! ≠ L[i]! := by
  rw [nodup_at]
  constructor
  · intro h i hi j hj e
    refine h i hi ?_
    rw [← e, getElem!_pos L j (by omega)]
    exact List.mem_take_iff_getElem.2 ⟨j, by omega, rfl⟩
  · intro h i hi hm
    obtain ⟨j, hj, e⟩ := List.mem_take_iff_getElem.1 hm
    rw [← getElem!_pos L j (by omega)] at e
    exact h i hi j (by omega) e

set_option maxHeartbeats 8000000 in
theorem refIs7_any (w : World) (v : Tv) (T : Topo) (hT : Tt w v T) (hbr : ∀ r ∈ T.realms, r.length < 1100000) (hnl : v.nl ≤ 4611686018427387904) (hnr : v.nr ≤ 4611686018427387904) (hnp : v.np ≤ 4611686018427387904) :
    Calls Tryz.prog 5 #[.agg #[.slice v.ar v.nr v.cr, .slice v.al v.nl v.cl, .slice v.ap v.np v.cp]] w fun e w' => e = .returned (.bool (decide (topoOk T))) ∧ Below w.heap.size w w' := by
  obtain ⟨ar, nr, cr, al, nl, cl, ap, np, cp⟩ := v
  dsimp only at hnl hnr hnp ⊢
  obtain ⟨R, hR⟩ : ∃ R, R = decide (topoOk T) := ⟨_, rfl⟩
  rw [← hR]
  have hR2 := fun (b : Bool) (h : (topoOk T ↔ b = true)) => (show R = b by rw [hR, Bool.eq_iff_iff, decide_eq_true_iff]; exact h)
  have hmk := topoOk_mk (n := nr) (m := nl) (p := np) hT.r.len hT.l.len hT.p.len
  obtain ⟨w1, hw1⟩ : ∃ w1, w1 = w.alloc (.cells #[.slice ar nr cr, .slice al nl cl, .slice ap np cp] 26) := ⟨_, rfl⟩
  have acc : Below w.heap.size w w1 := by rw [hw1]; exact (Below.refl _ _).alloc (Nat.le_refl _) _
  have hz : w1.heap.size = w.heap.size + 1 := by rw [hw1]; simp
  have k0 : ∀ (i : Nat) x, (#[Value.slice ar nr cr, .slice al nl cl, .slice ap np cp] : Array Value)[i]? = some x → w1.cell? ⟨w.heap.size, i, none⟩ = some x := fun i x h => by rw [hw1]; exact cell_new rfl _ _ h
  have keep : ∀ w2, Below w1.heap.size w1 w2 → w2.cell? ⟨w.heap.size, 0, none⟩ = some (.slice ar nr cr) ∧ w2.cell? ⟨w.heap.size, 1, none⟩ = some (.slice al nl cl) ∧ w2.cell? ⟨w.heap.size, 2, none⟩ = some (.slice ap np cp) := fun w2 h =>
    ⟨(h.cell (p := ⟨w.heap.size, 0, none⟩) (by show w.heap.size < _; omega)).trans (k0 0 _ rfl), (h.cell (p := ⟨w.heap.size, 1, none⟩) (by show w.heap.size < _; omega)).trans (k0 1 _ rfl), (h.cell (p := ⟨w.heap.size, 2, none⟩) (by show w.heap.size < _; omega)).trans (k0 2 _ rfl)⟩
  have HT := Lib.hid (hT.below acc)
  have KEEP := Lib.hid keep
  have ACC := Lib.hid acc
  have HZ := Lib.hid hz
  have HW1 := Lib.hid hw1
  have HR := Lib.hid hR2
  have HMK := Lib.hid hmk
  have hRE : Calls Tryz.prog 19 #[.slice ar nr cr] w1 fun e w' => e = .returned (.bool (decide (realmsOk T.realms))) ∧ Below w1.heap.size w1 w' := realms_any w1 _ _ _ _ HT.out.r HT.out.cr hnr hbr
  have HRL := Lib.hid hT.r.len
  rw [hw1] at hRE
  clear hT hR hR2 hmk hbr hw1 acc hz k0 keep
  by_cases h1 : realmsOk T.realms
  case neg =>
    rw [decide_eq_false h1] at hRE
    have hr : R = false := HR.out false ⟨fun h => absurd ((HMK.out).1 h) (by rintro ⟨⟨a, b, c, d, e, f⟩, g, h, i, j⟩; exact h1 ⟨j, c, by rw [HRL.out]; exact a, by rw [HRL.out]; exact b⟩), fun h => by cases h⟩
    subst hr
    clear h1
    go_enter Tryz.func5, Tryz.ntmps5
    go_wp2_with (go_at_call 19; refine hRE.mono ?_; rintro e w3 ⟨rfl, hb3⟩; rw [← HW1.out] at hb3)
    go_ret
    exact ⟨rfl, ACC.out.trans (hb3.mono ACC.out.size)⟩
  rw [decide_eq_true h1] at hRE
  have H1 := Lib.hid h1
  clear h1
  by_cases h2 : 20 < nl
  · have h2z : (20 : Int) < (nl : Int) := by omega
    have hr : R = false := HR.out false ⟨fun h => absurd ((HMK.out).1 h) (by rintro ⟨⟨a, b, c, d, e, f⟩, g⟩; omega), fun h => by cases h⟩
    subst hr
    go_enter Tryz.func5, Tryz.ntmps5
    go_wp2_with (go_at_call 19; refine hRE.mono ?_; rintro e w3 ⟨rfl, hb3⟩; rw [← HW1.out] at hb3; obtain ⟨a0, a1, a2⟩ := KEEP.out w3 hb3)
    go_ret
    exact ⟨rfl, ACC.out.trans (hb3.mono ACC.out.size)⟩
  have h2z : ¬ (20 : Int) < (nl : Int) := by omega
  by_cases h3 : 8 < np
  · have h3z : (8 : Int) < (np : Int) := by omega
    have hr : R = false := HR.out false ⟨fun h => absurd ((HMK.out).1 h) (by rintro ⟨⟨a, b, c, d, e, f⟩, g⟩; omega), fun h => by cases h⟩
    subst hr
    go_enter Tryz.func5, Tryz.ntmps5
    go_wp2_with (go_at_call 19; refine hRE.mono ?_; rintro e w3 ⟨rfl, hb3⟩; rw [← HW1.out] at hb3; obtain ⟨a0, a1, a2⟩ := KEEP.out w3 hb3)
    go_ret
    exact ⟨rfl, ACC.out.trans (hb3.mono ACC.out.size)⟩
  have h3z : ¬ (8 : Int) < (np : Int) := by omega
  have h2n : nl ≤ 20 := by omega
  have h3n : np ≤ 8 := by omega
  have tok : True := trivial
  go_enter Tryz.func5, Tryz.ntmps5
  go_wp2_with (go_at_call 19; refine hRE.mono ?_; rintro e w3 ⟨rfl, hb3⟩; rw [← HW1.out] at hb3; obtain ⟨a0, a1, a2⟩ := KEEP.out w3 hb3)
  have B3 := Lib.hid hb3
  clear hb3 a0 a1 a2 hRE h2z h3z h2 h3
  go_loopg [3] nl (fun gg s3 wr => ∃ k : Nat, k ≤ nl ∧ nl - k ≤ gg ∧ s3 = .int .i64 k ∧ Aside (∀ j, j < k → linkOk T.realms T.links[j]! ∧ ∀ i, i < j → T.links[i]! ≠ T.links[j]!) ∧ Aside (Below w1.heap.size w1 wr))
  case atStart => exact ⟨0, by omega, by omega, rfl, fun j hj => absurd hj (Nat.not_lt_zero _), B3.out⟩
  case round =>
    obtain ⟨k, hk, hgg, rfl, HK, HB⟩ := hrel
    obtain ⟨a0, a1, a2⟩ := KEEP.out wr HB.out
    have hlenw : w.heap.size < wr.heap.size := by have h1 := HB.out.size; have h2 := HZ.out; omega
    by_cases hlt : k < nl
    · have hltz : (k : Int) < (nl : Int) := by omega
      obtain ⟨b, off, hb, hbl, hc⟩ := HT.out.l.cell (show 0 < nl by omega)
      obtain ⟨x, hx⟩ : ∃ x : ByteArray, x = ⟨T.links[k]!.1.toArray⟩ := ⟨_, rfl⟩
      obtain ⟨y, hy⟩ : ∃ y : ByteArray, y = ⟨T.links[k]!.2.toArray⟩ := ⟨_, rfl⟩
      have hxy : (x.data.toList, y.data.toList) = T.links[k]! := by rw [hx, hy]
      have hcs := fun W (hW : Below w1.heap.size w1 W) j (hj : j < nl) => (⟨(hW.cell (p := ⟨b, off + j * 2, none⟩) hbl).trans (hc j hj).1, (hW.cell (p := ⟨b, off + j * 2 + 1, none⟩) hbl).trans (hc j hj).2⟩ : W.cell? ⟨b, off + j * 2, none⟩ = some (.string ⟨T.links[j]!.1.toArray⟩) ∧ W.cell? ⟨b, off + j * 2 + 1, none⟩ = some (.string ⟨T.links[j]!.2.toArray⟩))
      obtain ⟨c0, c1⟩ := hcs wr HB.out k hlt
      rw [← hx] at c0
      rw [← hy] at c1
      have hmem : T.links[k]! ∈ T.links := by rw [getElem!_pos T.links k (by rw [HT.out.l.len]; exact hlt)]; exact List.getElem_mem _
      obtain ⟨w5, hw5⟩ : ∃ w5, w5 = wr.alloc (.cells #[.string x, .string y] 39) := ⟨_, rfl⟩
      have acc5 : Below wr.heap.size wr w5 := by rw [hw5]; exact (Below.refl _ _).alloc (Nat.le_refl _) _
      have hz5 : w5.heap.size = wr.heap.size + 1 := by rw [hw5]; simp
      have p0 : w5.cell? ⟨wr.heap.size, 0, none⟩ = some (.string x) := by rw [hw5]; exact cell_new rfl _ _ rfl
      have p1 : w5.cell? ⟨wr.heap.size, 1, none⟩ = some (.string y) := by rw [hw5]; exact cell_new rfl _ _ rfl
      have keep5 : ∀ W, Below w5.heap.size w5 W → Below w1.heap.size w1 W ∧ (W.cell? ⟨w.heap.size, 0, none⟩ = some (.slice ar nr cr) ∧ W.cell? ⟨w.heap.size, 1, none⟩ = some (.slice al nl cl) ∧ W.cell? ⟨w.heap.size, 2, none⟩ = some (.slice ap np cp)) ∧ W.cell? ⟨wr.heap.size, 0, none⟩ = some (.string x) ∧ W.cell? ⟨wr.heap.size, 1, none⟩ = some (.string y) := fun W h => by
        have h9 := HB.out.trans ((acc5.trans (h.mono acc5.size)).mono HB.out.size)
        exact ⟨h9, KEEP.out W h9, (h.cell (p := ⟨wr.heap.size, 0, none⟩) (by show wr.heap.size < _; omega)).trans p0, (h.cell (p := ⟨wr.heap.size, 1, none⟩) (by show wr.heap.size < _; omega)).trans p1⟩
      have hP : ∀ (s : ByteArray) W, Below w1.heap.size w1 W → Calls Tryz.prog 20 #[.slice ar nr cr, .string s] W fun e w' => e = .returned (.int .i64 (placeOf T.realms s.data.toList)) ∧ ∃ q, w' = W.drewN q := fun s W h => place_any W ar nr cr T.realms s (HT.out.r.below h) hnr
      have hC1 := hP x w5 (keep5 w5 (Below.refl _ _)).1
      have hC2 := hP y
      have n1 := place_neg T.realms x.data.toList
      have n2 := place_neg T.realms y.data.toList
      have kxy := eq_bytes x y
      rw [hw5] at hC1
      have KEEP5 := Lib.hid keep5
      have HW5 := Lib.hid hw5
      have HXY := Lib.hid hxy
      have HMEM := Lib.hid hmem
      have HC2 := Lib.hid hC2
      have HCS := Lib.hid hcs
      subst hb
      clear hc hcs hx hy hxy hw5 acc5 hz5 p0 p1 keep5 hmem hC2 hP
      by_cases q1 : x.data.toList ∈ T.realms
      case neg =>
        rw [decide_eq_false q1] at n1
        have hr : R = false := HR.out false ⟨fun h => absurd (((HMK.out).1 h).2.2.2.1 _ HMEM.out).1 (by rw [← HXY.out]; exact q1), fun h => by cases h⟩
        subst hr
        clear q1 n2 kxy
        go_wp2_with (go_at_call 20; refine hC1.mono ?_; rintro e w6 ⟨rfl, hq6⟩; rw [← HW5.out] at hq6; have acc6 : Below w5.heap.size w5 w6 := (by obtain ⟨q, rfl⟩ := hq6; exact below_drewN (Below.refl _ _) q); clear hq6)
        go_ret
        exact ⟨rfl, ACC.out.trans ((KEEP5.out w6 acc6).1.mono ACC.out.size)⟩
      have Q1 := Lib.hid q1
      rw [decide_eq_true q1] at n1
      clear q1
      by_cases q2 : y.data.toList ∈ T.realms
      case neg =>
        rw [decide_eq_false q2] at n2
        have hr : R = false := HR.out false ⟨fun h => absurd (((HMK.out).1 h).2.2.2.1 _ HMEM.out).2.1 (by rw [← HXY.out]; exact q2), fun h => by cases h⟩
        subst hr
        clear q2 kxy
        go_wp2_with (first
          | (go_at_call 20; have _t := tok; refine hC1.mono ?_; rintro e w6 ⟨rfl, hq6⟩; rw [← HW5.out] at hq6; have acc6 : Below w5.heap.size w5 w6 := (by obtain ⟨q, rfl⟩ := hq6; exact below_drewN (Below.refl _ _) q); obtain ⟨bw1, ⟨d0, d1, d2⟩, d3, d4⟩ := KEEP5.out w6 acc6; clear tok hq6)
          | (go_at_call 20; refine (HC2.out w6 bw1).mono ?_; rintro e w7 ⟨rfl, hq7⟩; have acc7 : Below w5.heap.size w5 w7 := (by obtain ⟨q, rfl⟩ := hq7; exact below_drewN acc6 q); clear hq7))
        go_ret
        exact ⟨rfl, ACC.out.trans ((KEEP5.out w7 acc7).1.mono ACC.out.size)⟩
      have Q2 := Lib.hid q2
      rw [decide_eq_true q2] at n2
      clear q2
      by_cases q3 : x.data.toList = y.data.toList
      · rw [decide_eq_true q3] at kxy
        have hr : R = false := HR.out false ⟨fun h => absurd q3 (by have := (((HMK.out).1 h).2.2.2.1 _ HMEM.out).2.2; rw [← HXY.out] at this; exact this), fun h => by cases h⟩
        subst hr
        clear q3
        go_wp2_with (first
          | (go_at_call 20; have _t := tok; refine hC1.mono ?_; rintro e w6 ⟨rfl, hq6⟩; rw [← HW5.out] at hq6; have acc6 : Below w5.heap.size w5 w6 := (by obtain ⟨q, rfl⟩ := hq6; exact below_drewN (Below.refl _ _) q); obtain ⟨bw1, ⟨d0, d1, d2⟩, d3, d4⟩ := KEEP5.out w6 acc6; clear tok hq6)
          | (go_at_call 20; refine (HC2.out w6 bw1).mono ?_; rintro e w7 ⟨rfl, hq7⟩; have acc7 : Below w5.heap.size w5 w7 := (by obtain ⟨q, rfl⟩ := hq7; exact below_drewN acc6 q); clear hq7 bw1 d0 d1 d2 d3 d4; obtain ⟨bw1, ⟨d0, d1, d2⟩, d3, d4⟩ := KEEP5.out w7 acc7))
        go_ret
        exact ⟨rfl, ACC.out.trans ((KEEP5.out w7 acc7).1.mono ACC.out.size)⟩
      have Q3 := Lib.hid q3
      rw [decide_eq_false q3] at kxy
      clear q3
      go_wp2_with (first
        | (go_at_call 20; have _t := tok; refine hC1.mono ?_; rintro e w6 ⟨rfl, hq6⟩; rw [← HW5.out] at hq6; have acc6 : Below w5.heap.size w5 w6 := (by obtain ⟨q, rfl⟩ := hq6; exact below_drewN (Below.refl _ _) q); obtain ⟨bw1, ⟨d0, d1, d2⟩, d3, d4⟩ := KEEP5.out w6 acc6; clear tok hq6)
        | (go_at_call 20; refine (HC2.out w6 bw1).mono ?_; rintro e w7 ⟨rfl, hq7⟩; have acc7 : Below w5.heap.size w5 w7 := (by obtain ⟨q, rfl⟩ := hq7; exact below_drewN acc6 q); clear hq7 bw1 d0 d1 d2 d3 d4; obtain ⟨bw1, ⟨d0, d1, d2⟩, d3, d4⟩ := KEEP5.out w7 acc7))
      have AC7 := Lib.hid acc7
      clear acc6 acc7 bw1 d0 d1 d2 d3 d4 n1 n2 kxy hC1 a0 a1 a2 c0 c1
      have hd : ∀ j, j < k → j < nl := fun j hj => by omega
      have HD := Lib.hid hd
      have hE := fun (c d : ByteArray) w => run_link_eq c d x y w
      have HE := Lib.hid hE
      clear hd hE
      obtain ⟨wo, rfl⟩ : ∃ wo : World, wo = wr := ⟨_, rfl⟩
      go_loopg [5] k (fun gg s5 wr2 => ∃ i : Nat, i ≤ k ∧ k - i ≤ gg ∧ s5 = .int .i64 i ∧ Aside (∀ j, j < i → T.links[j]! ≠ T.links[k]!) ∧ Aside (Below w5.heap.size w5 wr2))
      case atStart => exact ⟨0, by omega, by omega, rfl, fun j hj => absurd hj (Nat.not_lt_zero _), AC7.out⟩
      case round =>
        obtain ⟨i, hi, hgg2, rfl, HI, HB2⟩ := hrel
        obtain ⟨bw1, ⟨d0, d1, d2⟩, d3, d4⟩ := KEEP5.out wr HB2.out
        by_cases hik : i < k
        · have hikz : (i : Int) < (k : Int) := by omega
          have hil : (i : Int) < (nl : Int) := by omega
          have hi0 : (0 : Int) ≤ (i : Int) := by omega
          obtain ⟨x2, hx2⟩ : ∃ x2 : ByteArray, x2 = ⟨T.links[i]!.1.toArray⟩ := ⟨_, rfl⟩
          obtain ⟨y2, hy2⟩ : ∃ y2 : ByteArray, y2 = ⟨T.links[i]!.2.toArray⟩ := ⟨_, rfl⟩
          have hxy2 : (x2.data.toList, y2.data.toList) = T.links[i]! := by rw [hx2, hy2]
          obtain ⟨c0, c1⟩ := HCS.out wr bw1 i (by omega)
          rw [← hx2] at c0
          rw [← hy2] at c1
          have hE2 := HE.out x2 y2
          rw [hxy2, HXY.out] at hE2
          clear hx2 hy2 hxy2 bw1
          by_cases hw : T.links[i]! = T.links[k]!
          · rw [decide_eq_true hw] at hE2
            have hr : R = false := HR.out false ⟨fun h => absurd hw ((nodup_lt T.links).1 ((HMK.out).1 h).1.2.2.2.2.1 k (Nat.lt_of_lt_of_eq hlt HT.out.l.len.symm) i hik), fun h => by cases h⟩
            subst hr
            clear hw
            go_wp2_with fail
            go_quiet (fail)
            go_wp2
            go_ret
            exact ⟨rfl, ACC.out.trans ((KEEP5.out _ (below_drewN HB2.out _)).1.mono ACC.out.size)⟩
          · rw [decide_eq_false hw] at hE2
            have HW := Lib.hid hw
            clear hw
            go_wp2_with fail
            go_quiet (fail)
            go_wp2
            go_roundg (k - (i + 1))
            case measure => omega
            case rel =>
              refine ⟨i + 1, by omega, by omega, by go_num, fun j hj => ?_, below_drewN HB2.out _⟩
              by_cases e : j = i
              · subst e; exact HW.out
              · exact HI.out j (by omega)
        · have hik2 : i = k := by omega
          subst hik2
          go_wp2
          go_roundg (nl - (i + 1))
          case measure => omega
          case rel =>
            refine ⟨i + 1, by omega, by omega, by go_num, fun j hj => ?_, bw1⟩
            by_cases e : j = i
            · subst e; exact ⟨by rw [← HXY.out]; exact ⟨Q1.out, Q2.out, Q3.out⟩, HI.out⟩
            · exact HK.out j (by omega)
    · have hkk : nl = k := by omega
      obtain ⟨k0, hk0⟩ : ∃ k0, k0 = k := ⟨_, rfl⟩
      rw [← hk0] at hkk
      subst hkk
      subst hk0
      have hlinks : ∀ l ∈ T.links, linkOk T.realms l := by
        intro q hq
        obtain ⟨j, hj, rfl⟩ := List.getElem_of_mem hq
        have := (HK.out j (Nat.lt_of_lt_of_eq hj HT.out.l.len)).1
        rwa [getElem!_pos T.links j hj] at this
      have hlnd : T.links.Nodup := (nodup_lt T.links).2 fun i hi => (HK.out i (Nat.lt_of_lt_of_eq hi HT.out.l.len)).2
      have HLK := Lib.hid hlinks
      have HLN := Lib.hid hlnd
      have BW := Lib.hid HB.out
      clear hlinks hlnd HB HK hlt
      go_wp2
      clear a0 a1 a2 hlenw
      go_loopg [6] np (fun gg s6 wr => ∃ k : Nat, k ≤ np ∧ np - k ≤ gg ∧ s6 = .int .i64 k ∧ Aside (∀ j, j < k → wayOk T.realms T.paths[j]! ∧ ∀ i, i < j → T.paths[i]!.1 ≠ T.paths[j]!.1) ∧ Aside (Below w1.heap.size w1 wr))
      case atStart => exact ⟨0, by omega, by omega, rfl, fun j hj => absurd hj (Nat.not_lt_zero _), BW.out⟩
      case round =>
        obtain ⟨k, hk, hgg, rfl, HK, HB⟩ := hrel
        obtain ⟨a0, a1, a2⟩ := KEEP.out wr HB.out
        have hlenw : w.heap.size < wr.heap.size := by have h1 := HB.out.size; have h2 := HZ.out; omega
        by_cases hlt : k < np
        · have hltz : (k : Int) < (np : Int) := by omega
          have hk0 : (0 : Int) ≤ (k : Int) := by omega
          obtain ⟨b, off, hb, hbl, hc⟩ := HT.out.p.cell (show 0 < np by omega)
          obtain ⟨av, nv, cv, h1, h2, h3, hV, hnv⟩ := hc k hlt
          obtain ⟨x, hx⟩ : ∃ x : ByteArray, x = ⟨T.paths[k]!.1.1.toArray⟩ := ⟨_, rfl⟩
          obtain ⟨y, hy⟩ : ∃ y : ByteArray, y = ⟨T.paths[k]!.1.2.toArray⟩ := ⟨_, rfl⟩
          have hxy : (x.data.toList, y.data.toList) = T.paths[k]!.1 := by rw [hx, hy]
          have hxyV : ((x.data.toList, y.data.toList), T.paths[k]!.2) = T.paths[k]! := by rw [hx, hy]
          have hcs := fun W (hW : Below w1.heap.size w1 W) j (hj : j < np) => (by
            obtain ⟨av', nv', cv', e1, e2, _⟩ := hc j hj
            exact ⟨(hW.cell (p := ⟨b, off + j * 3, none⟩) hbl).trans e1, (hW.cell (p := ⟨b, off + j * 3 + 1, none⟩) hbl).trans e2⟩ : W.cell? ⟨b, off + j * 3, none⟩ = some (.string ⟨T.paths[j]!.1.1.toArray⟩) ∧ W.cell? ⟨b, off + j * 3 + 1, none⟩ = some (.string ⟨T.paths[j]!.1.2.toArray⟩))
          obtain ⟨c0, c1⟩ := hcs wr HB.out k hlt
          have c2 := (HB.out.cell (p := ⟨b, off + k * 3 + 2, none⟩) hbl).trans h3
          rw [← hx] at c0
          rw [← hy] at c1
          have hmem : T.paths[k]! ∈ T.paths := by rw [getElem!_pos T.paths k (by rw [HT.out.p.len]; exact hlt)]; exact List.getElem_mem _
          have hP : ∀ W, Below w1.heap.size w1 W → Calls Tryz.prog 21 #[.agg #[.slice ar nr cr, .slice al nl cl, .slice (some ⟨b, off, none⟩) np cp], .agg #[.string x, .string y, .slice av nv cv]] W fun e w' => e = .returned (.bool (decide (wayOk T.realms T.paths[k]!))) ∧ Below W.heap.size W w' := fun W h => by
            have := refPath_any W ⟨ar, nr, cr, al, nl, cl, ap, np, cp⟩ T x y av nv cv T.paths[k]!.2 (HT.out.below h) hnr (hV.below h) hnv
            rw [hxyV] at this
            dsimp only at this
            rw [show ap = some ⟨b, off, none⟩ from hb] at this
            exact this
          have HP := Lib.hid hP
          have HXY := Lib.hid hxy
          have HMEM := Lib.hid hmem
          have HCS := Lib.hid hcs
          subst hb
          clear hc hcs h1 h2 h3 hV hnv hx hy hxy hxyV hmem hP
          have acc : Below w1.heap.size w1 wr.drew := HB.out.drew
          by_cases hok : wayOk T.realms T.paths[k]!
          case neg =>
            have hP2 := HP.out _ acc
            rw [decide_eq_false hok] at hP2
            have hr : R = false := HR.out false ⟨fun h => absurd (((HMK.out).1 h).2.1 _ HMEM.out) hok, fun h => by cases h⟩
            subst hr
            clear hok
            go_wp2_with fail
            go_still_tail 6, (by kernel_rfl)
            change wpList _ _ _ _ _ wr.drew
            clear a0 a1 a2 c0 c1 c2
            generalize wr.drew = w6 at acc hP2 ⊢
            go_wp2_with (go_at_call 21; refine hP2.mono ?_; rintro e w7 ⟨rfl, hb7⟩)
            go_ret
            exact ⟨rfl, ACC.out.trans ((acc.trans (hb7.mono acc.size)).mono ACC.out.size)⟩
          have HOK := Lib.hid hok
          have hP2 := HP.out _ acc
          rw [decide_eq_true hok] at hP2
          clear hok
          go_wp2_with fail
          go_still_tail 6, (by kernel_rfl)
          change wpList _ _ _ _ _ wr.drew
          clear a0 a1 a2 c0 c1 c2
          generalize wr.drew = w6 at acc hP2 ⊢
          go_wp2_with (go_at_call 21; refine hP2.mono ?_; rintro e w7 ⟨rfl, hb7⟩)
          have AC7 := Lib.hid (acc.trans (hb7.mono acc.size))
          clear hb7 acc hP2 hlenw
          obtain ⟨wo, rfl⟩ : ∃ wo : World, wo = wr := ⟨_, rfl⟩
          go_loopg [7] k (fun gg s7 wr2 => ∃ i : Nat, i ≤ k ∧ k - i ≤ gg ∧ s7 = .int .i64 i ∧ Aside (∀ j, j < i → T.paths[j]!.1 ≠ T.paths[k]!.1) ∧ Aside (Below w1.heap.size w1 wr2))
          case atStart => exact ⟨0, by omega, by omega, rfl, fun j hj => absurd hj (Nat.not_lt_zero _), AC7.out⟩
          case round =>
            obtain ⟨i, hi, hgg2, rfl, HI, HB2⟩ := hrel
            obtain ⟨a0, a1, a2⟩ := KEEP.out wr HB2.out
            by_cases hik : i < k
            · have hikz : (i : Int) < (k : Int) := by omega
              have hil : (i : Int) < (np : Int) := by omega
              have hi0 : (0 : Int) ≤ (i : Int) := by omega
              obtain ⟨x2, hx2⟩ : ∃ x2 : ByteArray, x2 = ⟨T.paths[i]!.1.1.toArray⟩ := ⟨_, rfl⟩
              obtain ⟨y2, hy2⟩ : ∃ y2 : ByteArray, y2 = ⟨T.paths[i]!.1.2.toArray⟩ := ⟨_, rfl⟩
              have hxy2 : (x2.data.toList, y2.data.toList) = T.paths[i]!.1 := by rw [hx2, hy2]
              obtain ⟨c0, c1⟩ := HCS.out wr HB2.out i (by omega)
              obtain ⟨e0, e1⟩ := HCS.out wr HB2.out k (by omega)
              rw [← hx2] at c0
              rw [← hy2] at c1
              have hx3 : (⟨T.paths[k]!.1.1.toArray⟩ : ByteArray) = x := by have := HXY.out; rw [← this]
              have hy3 : (⟨T.paths[k]!.1.2.toArray⟩ : ByteArray) = y := by have := HXY.out; rw [← this]
              rw [hx3] at e0
              rw [hy3] at e1
              have kx := eq_bytes x2 x
              have ky := eq_bytes y2 y
              have hne : (T.paths[i]!.1 = T.paths[k]!.1) ↔ (x2.data.toList = x.data.toList ∧ y2.data.toList = y.data.toList) := by rw [← hxy2, ← HXY.out, Prod.mk.injEq]
              have HNE := Lib.hid hne
              clear hx2 hy2 hxy2 hx3 hy3 hne
              by_cases hw1 : x2.data.toList = x.data.toList
              · rw [decide_eq_true hw1] at kx
                by_cases hw2 : y2.data.toList = y.data.toList
                · rw [decide_eq_true hw2] at ky
                  have hr : R = false := HR.out false ⟨fun h => absurd (HNE.out.2 ⟨hw1, hw2⟩) ((map_nodup_at T.paths).1 ((HMK.out).1 h).2.2.1 k (Nat.lt_of_lt_of_eq hlt HT.out.p.len.symm) i hik), fun h => by cases h⟩
                  subst hr
                  clear hw1 hw2
                  go_wp2_with fail
                  go_quiet (fail)
                  go_wp2
                  go_ret
                  exact ⟨rfl, ACC.out.trans ((below_drewN HB2.out _).mono ACC.out.size)⟩
                · rw [decide_eq_false hw2] at ky
                  have HW := Lib.hid (fun h => hw2 (HNE.out.1 h).2)
                  clear hw1 hw2
                  go_wp2_with fail
                  go_quiet (fail)
                  go_wp2
                  go_roundg (k - (i + 1))
                  case measure => omega
                  case rel =>
                    refine ⟨i + 1, by omega, by omega, by go_num, fun j hj => ?_, below_drewN HB2.out _⟩
                    by_cases e : j = i
                    · subst e; exact HW.out
                    · exact HI.out j (by omega)
              · rw [decide_eq_false hw1] at kx
                have HW := Lib.hid (fun h => hw1 (HNE.out.1 h).1)
                clear hw1 ky
                go_wp2_with fail
                go_quiet (fail)
                go_wp2
                go_roundg (k - (i + 1))
                case measure => omega
                case rel =>
                  refine ⟨i + 1, by omega, by omega, by go_num, fun j hj => ?_, below_drewN HB2.out _⟩
                  by_cases e : j = i
                  · subst e; exact HW.out
                  · exact HI.out j (by omega)
            · have hik2 : i = k := by omega
              subst hik2
              go_wp2
              go_roundg (np - (i + 1))
              case measure => omega
              case rel =>
                refine ⟨i + 1, by omega, by omega, by go_num, fun j hj => ?_, HB2.out⟩
                by_cases e : j = i
                · subst e; exact ⟨HOK.out, HI.out⟩
                · exact HK.out j (by omega)
        · have hkk : np = k := by omega
          subst hkk
          have hpaths : ∀ q ∈ T.paths, wayOk T.realms q := by
            intro q hq
            obtain ⟨j, hj, rfl⟩ := List.getElem_of_mem hq
            have := (HK.out j (Nat.lt_of_lt_of_eq hj HT.out.p.len)).1
            rwa [getElem!_pos T.paths j hj] at this
          have hpnd : (T.paths.map (·.1)).Nodup := (map_nodup_at T.paths).2 fun i hi => (HK.out i (Nat.lt_of_lt_of_eq hi HT.out.p.len)).2
          have hr : R = true := HR.out true ⟨fun _ => rfl, fun _ => (HMK.out).2 ⟨⟨by have := H1.out.2.2.1; have e := HRL.out; omega, by have := H1.out.2.2.2; have e := HRL.out; omega, H1.out.2.1, h2n, HLN.out, h3n⟩, hpaths, hpnd, HLK.out, H1.out.1⟩⟩
          subst hr
          clear hpaths hpnd
          go_wp2
          go_ret
          exact ⟨rfl, ACC.out.trans (HB.out.mono ACC.out.size)⟩
end Go.Proofs.YtcleonpckgfdhaaGreatDoor
