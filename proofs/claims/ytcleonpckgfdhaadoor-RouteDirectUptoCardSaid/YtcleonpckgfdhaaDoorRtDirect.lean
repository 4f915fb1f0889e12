/-
  RouteDirect: the law's walk.
-/
import Derived.Test.YtcleonpckgfdhaaDoorRtKnown
set_option linter.unusedVariables false
set_option linter.unusedSimpArgs false
set_option maxRecDepth 100000
namespace Go.Proofs.YtcleonpckgfdhaaDoor
open Go Go.RowKit Go.Lib Go.Shelf

set_option maxHeartbeats 8000000 in
theorem routeDirect_walk (v : Tv) (T : Topo) (a b : Int) (hk : bulkT T ≤ 1048576) (_ : (Lit.int .i64 a).wf = true) (_ : (Lit.int .i64 b).wf = true) (w : World) (hg : Glob w) (hT : Tt w v T) :
    Calls Tryd.prog 6 #[.agg #[.slice v.ar v.nr v.cr, .slice v.al v.nl v.cl, .slice v.ap v.np v.cp], .int .i64 a, .int .i64 b] w fun e w' => e = .returned (.bool true) ∧ Below w.heap.size w w' := by
  obtain ⟨ar, nr, cr, al, nl, cl, ap, np, cp⟩ := v
  dsimp only
  obtain ⟨w1, hw1⟩ : ∃ w1, w1 = w.alloc (.cells #[.slice ar nr cr, .slice al nl cl, .slice ap np cp] 26) := ⟨_, rfl⟩
  obtain ⟨acc0, hz, kp⟩ := box_keep hw1
  have keep : ∀ W, Below w1.heap.size w1 W → W.cell? ⟨w.heap.size, 0, none⟩ = some (.slice ar nr cr) ∧ W.cell? ⟨w.heap.size, 1, none⟩ = some (.slice al nl cl) ∧ W.cell? ⟨w.heap.size, 2, none⟩ = some (.slice ap np cp) := fun W h => ⟨kp W h 0 _ rfl, kp W h 1 _ rfl, kp W h 2 _ rfl⟩
  have hB := big_any w1 ⟨ar, nr, cr, al, nl, cl, ap, np, cp⟩ T (hT.below acc0) (by omega)
  have hl1 : T.realms.length = nr := hT.r.len
  have hl2 : T.links.length = nl := hT.l.len
  have hl3 : T.paths.length = np := hT.p.len
  have HG := Lib.hid (hg.below acc0)
  have KEEP := Lib.hid keep
  have ACC := Lib.hid acc0
  have HW1 := Lib.hid hw1
  have HT1 := Lib.hid (hT.below acc0)
  dsimp only at hB
  rw [hw1] at hB
  by_cases hbig : 3000 < bulkT T
  · rw [decide_eq_true hbig] at hB
    clear hbig hk hl1 hl2 hl3 hw1 acc0 hz kp keep hg hT
    go_enter Tryd.func6, Tryd.ntmps6
    go_wp2_with (first | (go_at_call 11; refine hB.mono ?_; rintro e w2 ⟨rfl, hb2⟩; rw [← HW1.out] at hb2; have acc : Below w1.heap.size w1 w2 := hb2; clear hb2; obtain ⟨a0, a1, a2⟩ := KEEP.out w2 acc))
    go_ret
    exact ⟨rfl, ACC.out.trans (acc.mono ACC.out.size)⟩
  · rw [decide_eq_false hbig] at hB
    have hbk : bulkT T ≤ 3000 := by omega
    obtain ⟨hr1, hr2⟩ := bulk_realms hbk
    have hr3 := bulk_links hbk
    obtain ⟨hS, hr4⟩ := bulk_short hbk (by omega)
    have hRI := fun W (h : Below w1.heap.size w1 W) => refIs7_any W ⟨ar, nr, cr, al, nl, cl, ap, np, cp⟩ T ((hT.below acc0).below h) (fun r hr => by have := hr2 r hr; omega) (by dsimp only; omega) (by dsimp only; omega) (by dsimp only; omega)
    dsimp only at hRI
    have HRI := Lib.hid hRI
    by_cases hok : topoOk T
    case neg =>
      have HOK := Lib.hid (decide_eq_false hok)
      clear hbig hk hl1 hl2 hl3 hw1 acc0 hz kp keep hg hT hbk hr1 hr2 hr3 hS hr4 hRI hok
      go_enter Tryd.func6, Tryd.ntmps6
      go_wp2_with (first | (go_at_call 11; refine hB.mono ?_; rintro e w2 ⟨rfl, hb2⟩; rw [← HW1.out] at hb2; have acc : Below w1.heap.size w1 w2 := hb2; clear hb2; obtain ⟨a0, a1, a2⟩ := KEEP.out w2 acc) | (go_at_call 13; refine (HRI.out _ acc).mono ?_; rintro e w3 ⟨rfl, hb3⟩; (first | rw [HOK.out] | skip); replace acc := acc.trans (hb3.mono acc.size); clear hb3 a0 a1 a2; obtain ⟨a0, a1, a2⟩ := KEEP.out w3 acc))
      go_ret
      exact ⟨rfl, ACC.out.trans (acc.mono ACC.out.size)⟩
    have HOK := Lib.hid (decide_eq_true hok)
    have hn1 : 1 ≤ nr := by have := hok.1.1; omega
    have hn6 : nr ≤ 6 := by have := hok.1.2.1; omega
    have hnl : nl ≤ 20 := by have := hok.2.1.1; omega
    have hnp : np ≤ 8 := by have := hok.2.2.1; omega
    have hPK : ∀ W, Below w1.heap.size w1 W → ∀ k : Int, Calls Tryd.prog 15 #[.agg #[.slice ar nr cr, .slice al nl cl, .slice ap np cp], .int .i64 k] W fun e w' => ∃ X : ByteArray, e = .returned (.string X) ∧ (X.data.toList ∈ T.realms ∧ X.size < 90000) ∧ Below W.heap.size W w' := fun W h k => by
      refine (pick_any W ⟨ar, nr, cr, al, nl, cl, ap, np, cp⟩ T k ((hT.below acc0).below h) (by dsimp only; omega) (by dsimp only; omega)).mono ?_
      rintro e w' ⟨rfl, hb⟩
      have hm := pick_mem (T := T) (by omega) k
      exact ⟨_, rfl, ⟨hm, by have := hr2 _ hm; show (pickOf T k).length < 90000; omega⟩, hb⟩
    have HPK := Lib.hid hPK
    have HS := Lib.hid hS
    have HOKT := Lib.hid hok
    have HLN := Lib.hid hl3
    have HZ := Lib.hid hz
    have tok : True := trivial
    clear hbig hk hl1 hl2 hl3 hw1 acc0 hz kp keep hg hT hbk hr1 hr2 hr3 hS hr4 hRI hok hPK
    go_enter Tryd.func6, Tryd.ntmps6
    go_wp2_with (first | (go_at_call 11; refine hB.mono ?_; rintro e w2 ⟨rfl, hb2⟩; rw [← HW1.out] at hb2; have acc : Below w1.heap.size w1 w2 := hb2; clear hb2; obtain ⟨a0, a1, a2⟩ := KEEP.out w2 acc) | (go_at_call 13; refine (HRI.out _ acc).mono ?_; rintro e w3 ⟨rfl, hb3⟩; (first | rw [HOK.out] | skip); replace acc := acc.trans (hb3.mono acc.size); clear hb3 a0 a1 a2; obtain ⟨a0, a1, a2⟩ := KEEP.out w3 acc))
    clear hB a0 a1 a2
    have acc := acc.drew
    have KEEP2 := Lib.hid KEEP.out
    go_region_held3 (fun W => W.cell? ⟨w.heap.size, 0, none⟩ = some (.slice ar nr cr) ∧ W.cell? ⟨w.heap.size, 1, none⟩ = some (.slice al nl cl) ∧ W.cell? ⟨w.heap.size, 2, none⟩ = some (.slice ap np cp)) (first | exact KEEP.out _ acc | go_keep)
      (first
        | (go_at_call 15; have _t := tok; refine (HPK.out _ acc _).mono ?_; rintro e w4 ⟨X, rfl, hX, hb4⟩; replace acc := acc.trans (hb4.mono acc.size); clear hb4 tok)
        | (go_at_call 15; refine (HPK.out _ acc _).mono ?_; rintro e w5 ⟨Y, rfl, hY, hb5⟩; replace acc := acc.trans (hb5.mono acc.size); clear hb5))
    obtain ⟨hXm, hXs⟩ := hX
    obtain ⟨hYm, hYs⟩ := hY
    have HXM := Lib.hid hXm
    have HYM := Lib.hid hYm
    have AC5 := Lib.hid acc
    clear hXm hYm
    go_wp2
    go_loopg [9] np (fun gg s9 wr => ∃ k : Nat, k ≤ np ∧ np - k ≤ gg ∧ s9 = .int .i64 k ∧ Aside (∀ j, j < k → T.paths[j]!.1 ≠ (X.data.toList, Y.data.toList)) ∧ Aside (Below w1.heap.size w1 wr))
    case atStart => exact ⟨0, by omega, by omega, rfl, fun j hj => absurd hj (Nat.not_lt_zero _), AC5.out⟩
    case round =>
      obtain ⟨k, hkk, hgg, rfl, HK, HB⟩ := hrel
      have acc := HB.out
      obtain ⟨a0, a1, a2⟩ := KEEP.out wr acc
      by_cases hlt : k < np
      · have hltz : (k : Int) < (np : Int) := by omega
        obtain ⟨bb, off, hb, hbl, hc⟩ := HT1.out.p.cell (show 0 < np by omega)
        obtain ⟨av, nv, cv, h1, h2, h3, hV, hnv⟩ := hc k hlt
        obtain ⟨x, hx⟩ : ∃ x : ByteArray, x = ⟨T.paths[k]!.1.1.toArray⟩ := ⟨_, rfl⟩
        obtain ⟨y, hy⟩ : ∃ y : ByteArray, y = ⟨T.paths[k]!.1.2.toArray⟩ := ⟨_, rfl⟩
        have hxy : (x.data.toList, y.data.toList) = T.paths[k]!.1 := by rw [hx, hy]
        have c0 := (acc.cell (p := ⟨bb, off + k * 3, none⟩) hbl).trans h1
        have c1 := (acc.cell (p := ⟨bb, off + k * 3 + 1, none⟩) hbl).trans h2
        rw [← hx] at c0
        rw [← hy] at c1
        have kx := eq_bytes x X
        have ky := eq_bytes y Y
        have hne : (T.paths[k]!.1 = (X.data.toList, Y.data.toList)) ↔ (x.data.toList = X.data.toList ∧ y.data.toList = Y.data.toList) := by rw [← hxy, Prod.mk.injEq]
        have HNE := Lib.hid hne
        subst hb
        clear hc h1 h2 h3 hV hnv hx hy hxy hne
        by_cases q1 : x.data.toList = X.data.toList
        · rw [decide_eq_true q1] at kx
          by_cases q2 : y.data.toList = Y.data.toList
          · rw [decide_eq_true q2] at ky
            clear q1 q2
            go_wp2_with (go_at_call 14; refine (known_any _ (HG.out.below acc)).mono ?_; rintro e w9 ⟨rfl, hb9⟩; replace acc := acc.trans (hb9.mono acc.size); clear hb9)
            go_ret
            exact ⟨rfl, ACC.out.trans (acc.mono ACC.out.size)⟩
          · rw [decide_eq_false q2] at ky
            have HW := Lib.hid (fun h => q2 (HNE.out.1 h).2)
            clear q1 q2
            go_wp2
            go_roundg (np - (k + 1))
            case measure => omega
            case rel =>
              refine ⟨k + 1, by omega, by omega, by go_num, fun j hj => ?_, acc⟩
              by_cases e : j = k
              · subst e; exact HW.out
              · exact HK.out j (by omega)
        · rw [decide_eq_false q1] at kx
          have HW := Lib.hid (fun h => q1 (HNE.out.1 h).1)
          clear q1 ky
          go_wp2
          go_roundg (np - (k + 1))
          case measure => omega
          case rel =>
            refine ⟨k + 1, by omega, by omega, by go_num, fun j hj => ?_, acc⟩
            by_cases e : j = k
            · subst e; exact HW.out
            · exact HK.out j (by omega)
      · have hkn : np = k := by omega
        subst hkn
        have hno : laidOf T X.data.toList Y.data.toList = none := laid_none.2 fun p hp => by
          obtain ⟨j, hj, rfl⟩ := List.getElem_of_mem hp
          have := HK.out j (by rw [← HLN.out]; exact hj)
          rwa [getElem!_pos T.paths j hj] at this
        have kxy := eq_bytes X Y
        by_cases q : X.data.toList = Y.data.toList
        · rw [decide_eq_true q] at kxy
          clear q hno
          go_wp2_with (go_at_call 14; refine (known_any _ (HG.out.below acc)).mono ?_; rintro e w9 ⟨rfl, hb9⟩; replace acc := acc.trans (hb9.mono acc.size); clear hb9)
          go_ret
          exact ⟨rfl, ACC.out.trans (acc.mono ACC.out.size)⟩
        · rw [decide_eq_false q] at kxy
          cases hlk : linkedOf T X.data.toList Y.data.toList with
          | false =>
            have HLK := Lib.hid hlk
            clear q hno hlk
            go_wp2_with (first | (go_at_call 23; refine (linked_any _ ⟨ar, nr, cr, al, nl, cl, ap, np, cp⟩ T X Y (HT1.out.below acc) (by dsimp only; omega)).mono ?_; rintro e w8 ⟨rfl, hb8⟩; rw [HLK.out]; replace acc := acc.trans (hb8.mono acc.size); clear hb8; obtain ⟨a0, a1, a2⟩ := KEEP.out w8 acc) | (go_at_call 14; refine (known_any _ (HG.out.below acc)).mono ?_; rintro e w9 ⟨rfl, hb9⟩; replace acc := acc.trans (hb9.mono acc.size); clear hb9))
            go_ret
            exact ⟨rfl, ACC.out.trans (acc.mono ACC.out.size)⟩
          | true =>
            have HLK := Lib.hid hlk
            obtain ⟨e1, e2⟩ := next_direct q hlk hno
            have HNX := Lib.hid e1
            have HWK := Lib.hid e2
            have kyy := eq_bytes Y Y
            rw [decide_eq_true rfl] at kyy
            have kyt : (Y.data.toList == Y.toList) = true := by rw [ByteArray.toList_eq]; simp
            clear q hno hlk e1 e2
            go_wp2_with (first | (go_at_call 23; refine (linked_any _ ⟨ar, nr, cr, al, nl, cl, ap, np, cp⟩ T X Y (HT1.out.below acc) (by dsimp only; omega)).mono ?_; rintro e w8 ⟨rfl, hb8⟩; rw [HLK.out]; replace acc := acc.trans (hb8.mono acc.size); clear hb8; obtain ⟨a0, a1, a2⟩ := KEEP.out w8 acc) | (go_at_call 24; refine (next_any _ ⟨ar, nr, cr, al, nl, cl, ap, np, cp⟩ T X Y (HT1.out.below acc) HS.out (by dsimp only; omega) (HG.out.below acc) hXs hYs).mono ?_; rintro e w6 ⟨rfl, hb6⟩; rw [HNX.out]; unfold nextV; replace acc := acc.trans (hb6.mono acc.size); clear hb6; obtain ⟨a0, a1, a2⟩ := KEEP.out w6 acc) | (go_at_call 16; refine (walk_any _ ⟨ar, nr, cr, al, nl, cl, ap, np, cp⟩ T X Y (HT1.out.below acc) HS.out (by dsimp only; omega) (HG.out.below acc) hXs hYs).mono ?_; intro e w7 hp; rw [HWK.out] at hp; obtain ⟨adw, cw, rfl, hAw, hb7⟩ := hp; replace acc := acc.trans (hb7.mono acc.size); clear hb7 hAw) | (go_at_call 14; refine (known_any _ (HG.out.below acc)).mono ?_; rintro e w9 ⟨rfl, hb9⟩; replace acc := acc.trans (hb9.mono acc.size); clear hb9))
            go_ret
            exact ⟨rfl, ACC.out.trans (acc.mono ACC.out.size)⟩
end Go.Proofs.YtcleonpckgfdhaaDoor
