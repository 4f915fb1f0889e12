/-
  RouteTrees: the law's walk.
-/
import Derived.Test.YtcleonpckgfdhaaDoorRtTreesP
set_option linter.unusedVariables false
set_option linter.unusedSimpArgs false
set_option maxRecDepth 100000
namespace Go.Proofs.YtcleonpckgfdhaaDoor
open Go Go.RowKit Go.Lib Go.Shelf

theorem bytes_nil {y : ByteArray} (h : y.data.toList = []) : y = ⟨#[]⟩ := by
  obtain ⟨⟨l⟩⟩ := y
  simp at h
  rw [h]

set_option maxHeartbeats 16000000 in
theorem routeTrees_walk (ad : Option Addr) (n c : Nat) (l : List Str) (a b : Int) (hsz : ∀ x ∈ l, x.length ≤ 140737488351232) (_ : (Lit.int .i64 a).wf = true) (_ : (Lit.int .i64 b).wf = true) (w : World) (hg : Glob w) (hA : At w ad n l) :
    Calls Tryd.prog 5 #[.slice ad n c, .int .i64 a, .int .i64 b] w fun e w' => e = .returned (.bool true) ∧ Below w.heap.size w w' := by
  obtain ⟨w1, hw1⟩ : ∃ w1, w1 = w.alloc (.cells #[.slice none 0 0, .slice none 0 0, .slice none 0 0] 26) := ⟨_, rfl⟩
  have bx1 : BoxAt w1 w.heap.size (.slice none 0 0) (.slice none 0 0) (.slice none 0 0) := by rw [hw1]; exact ⟨cell_new rfl _ _ rfl, cell_new rfl _ _ rfl, cell_new rfl _ _ rfl, frozen_new _ _ _⟩
  have acc1 : Below w.heap.size w w1 := by rw [hw1]; exact (Below.refl _ _).alloc (Nat.le_refl _) _
  have hz1 : w.heap.size < w1.heap.size := by rw [hw1]; simp
  have HG := Lib.hid hg
  have HA := Lib.hid hA
  have BX1 := Lib.hid bx1
  have ACC1 := Lib.hid acc1
  have HZ1 := Lib.hid hz1
  have HW1 := Lib.hid hw1
  clear hg hA bx1 acc1 hz1 hw1 hsz
  go_enter Tryd.func5, Tryd.ntmps5
  go_upto_block 0 with fail
  rw [← HW1.out]
  go_cut [] from 8 (fun wx => ∃ (aR : Option Addr) (nR cR : Nat) (R : List Str), nR ≤ 240 ∧ Aside (BoxAt wx w.heap.size (.slice aR nR cR) (.slice none 0 0) (.slice none 0 0)) ∧ Aside (wx.ownsRow (w.heap.size + 1) 9 1 (.slice aR nR cR) nR (strs R)) ∧ Aside (Below w.heap.size w wx) ∧ Aside (w.heap.size < wx.heap.size) ∧ Aside (Pend R []))
  case first =>
    go_wp2_with fail
    go_loopg [8] 60 (fun gg s8 wr => ∃ (k nR cR : Nat) (aR : Option Addr) (R : List Str), k ≤ 60 ∧ 60 - k ≤ gg ∧ s8 = .int .i64 k ∧ nR ≤ 4 * k ∧ Aside (BoxAt wr w.heap.size (.slice aR nR cR) (.slice none 0 0) (.slice none 0 0)) ∧ Aside (wr.ownsRow (w.heap.size + 1) 9 1 (.slice aR nR cR) nR (strs R)) ∧ Aside (Below w.heap.size w wr) ∧ Aside (w.heap.size < wr.heap.size) ∧ Aside (Pend R []))
    case atStart => exact ⟨0, 0, 0, none, [], by omega, by omega, rfl, by omega, BX1.out, World.ownsRow_nil _ _ _ _, ACC1.out, HZ1.out, Pend.nil _⟩
    case round =>
      obtain ⟨k, nR, cR, aR, R, hk, hgg, rfl, hnR, HBX, HO, HB, HLT, HPE⟩ := hrel
      by_cases hlt : k < n
      case neg =>
        go_wp2
        go_meet
        case rel => exact ⟨aR, nR, cR, R, by omega, HBX.out, HO.out, HB.out, HLT.out, HPE.out⟩
      have hltz : (k : Int) < (n : Int) := by omega
      by_cases h60 : k < 60
      case neg =>
        have h60z : ¬ (k : Int) < 60 := by omega
        go_wp2
        go_meet
        case rel => exact ⟨aR, nR, cR, R, by omega, HBX.out, HO.out, HB.out, HLT.out, HPE.out⟩
      have h60z : (k : Int) < 60 := by omega
      obtain ⟨bb, off, hb, hbl, hc⟩ := HA.out.cell (show 0 < n by omega)
      obtain ⟨x, hx⟩ : ∃ x : ByteArray, x = ⟨l[k]!.toArray⟩ := ⟨_, rfl⟩
      have c0 := (HB.out.cell (p := ⟨bb, off + k, none⟩) hbl).trans (hc k hlt)
      have c0k := fun W (h : Below w.heap.size w W) => (h.cell (p := ⟨bb, off + k, none⟩) hbl).trans (hc k hlt)
      rw [← hx] at c0
      simp only [← hx] at c0k
      have C0 := Lib.hid c0k
      subst hb
      clear hc hx hbl c0k
      by_cases hbig : 60 < x.size
      · have hbz : (60 : Int) < (x.size : Int) := by omega
        clear hbig
        go_wp2
        go_ret
        exact ⟨rfl, HB.out⟩
      have hbz : ¬ (60 : Int) < (x.size : Int) := by omega
      have hxs : x.size < 90000 := by omega
      cases hr : isR x.data.toList with
      | false =>
        have HR := Lib.hid hr
        clear hr
        go_wp2_with (go_at_call 19; refine (refis_any _ x hxs).mono ?_; rintro e w2 ⟨rfl, hb2⟩; rw [HR.out])
        go_ret
        exact ⟨rfl, HB.out.trans (hb2.mono HB.out.size)⟩
      | true =>
        have HR := Lib.hid hr
        clear hr
        go_wp2_with (go_at_call 19; refine (refis_any _ x hxs).mono ?_; rintro e w2 ⟨rfl, hb2⟩; rw [HR.out]; have acc2 := HB.out.trans (hb2.mono HB.out.size); have c02 := C0.out w2 acc2)
        have HBX2 := Lib.hid (HBX.out.below hb2 HLT.out)
        have HO2 := Lib.hid (own_below HO.out hb2)
        have HAC2 := Lib.hid acc2
        have HLT2 := Lib.hid (Nat.lt_of_lt_of_le HLT.out hb2.size)
        clear c0 c02 acc2 hb2
        obtain ⟨wo, rfl⟩ : ∃ wo : World, wo = wr := ⟨_, rfl⟩
        go_loopg [9] 5 (fun gg s9 wr2 => ∃ (y : ByteArray) (nR cR : Nat) (aR : Option Addr) (R : List Str), s9 = .string y ∧ labN y.data.toList ≤ gg ∧ y.size < 90000 ∧ nR + labN y.data.toList ≤ 4 * k + 4 ∧ Aside (y.data.toList = [] ∨ isR y.data.toList = true) ∧ Aside (BoxAt wr2 w.heap.size (.slice aR nR cR) (.slice none 0 0) (.slice none 0 0)) ∧ Aside (wr2.ownsRow (w.heap.size + 1) 9 1 (.slice aR nR cR) nR (strs R)) ∧ Aside (Below w.heap.size w wr2) ∧ Aside (w.heap.size < wr2.heap.size) ∧ Aside (Pend R y.data.toList))
        case atStart => exact ⟨x, nR, cR, aR, R, rfl, by have := labN_le x.data.toList; omega, hxs, by have := labN_le x.data.toList; omega, .inr HR.out, HBX2.out, HO2.out, HAC2.out, HLT2.out, HPE.out.of _⟩
        case round =>
          clear HBX HO HB HLT HPE HBX2 HO2 HAC2 HLT2
          obtain ⟨y, nR, cR, aR, R, rfl, hgg2, hys, hnR2, HY, HBX, HO, HB, HLT, HPE⟩ := hrel
          by_cases hy : y.data.toList = []
          · have := bytes_nil hy
            subst this
            go_wp2
            go_roundg (60 - (k + 1))
            case measure => omega
            case rel => exact ⟨k + 1, nR, cR, aR, R, by omega, by omega, by go_num, by omega, HBX.out, HO.out, HB.out, HLT.out, HPE.out⟩
          · have hyR : isR y.data.toList = true := HY.out.resolve_left hy
            obtain ⟨hu, hl⟩ := up_less hyR
            have he1 : (y.toList == []) = false := by rw [ByteArray.toList_eq]; cases e : y.data.toList with
              | nil => exact absurd e hy
              | cons a b => rfl
            have he2 : (y.toList != []) = true := by unfold bne; rw [he1]; rfl
            have he3 : y.toList.isEmpty = false := by rw [ByteArray.toList_eq]; cases e : y.data.toList with
              | nil => exact absurd e hy
              | cons a b => rfl
            obtain ⟨u, huu⟩ : ∃ u : ByteArray, u = ⟨(upOf y.data.toList).toArray⟩ := ⟨_, rfl⟩
            have hud : u.data.toList = upOf y.data.toList := by rw [huu]
            have hus : u.size < 90000 := by
              have : u.size = (upOf y.data.toList).length := by rw [huu]; rfl
              rw [this]
              rcases hu with h | h
              · rw [h]; simp
              · have := isR_short h; omega
            have HU := Lib.hid huu
            have HUD := Lib.hid hud
            have HUR := Lib.hid hu
            have HYR := Lib.hid hyR
            obtain ⟨b0, b1, b2, _⟩ := HBX.out
            obtain ⟨PL, hPL⟩ : ∃ PL, PL = placeOf R y.data.toList := ⟨_, rfl⟩
            have hpn := place_neg R y.data.toList
            rw [← hPL] at hpn
            have HPL := Lib.hid hPL.symm
            clear hPL huu hud hu hyR hy
            by_cases hin : y.data.toList ∈ R
            · rw [decide_eq_true hin] at hpn
              have hpn2 : ¬ PL < 0 := by simpa using hpn
              have HIN := Lib.hid hin
              clear hin hpn
              go_wp2_with (first
                | (go_at_call 18; go_loud (refine (place_any _ aR nR cR R y (At.owns HO.out) (by omega)).mono ?_; rintro e w3 ⟨rfl, hq⟩; rw [HPL.out]; have acc3 : Below wr.heap.size wr w3 := (by obtain ⟨q, rfl⟩ := hq; exact below_drewN (Below.refl _ _) q); clear hq; have bb3 := HBX.out.below acc3 HLT.out; obtain ⟨b0, b1, b2, _⟩ := bb3))
                | (go_at_call 20; refine (refup_any _ y hys).mono ?_; rintro e w7 ⟨rfl, hb7⟩))
              have HB7 := Lib.hid (acc3.trans (hb7.mono acc3.size))
              rw [← HU.out]
              clear b0 b1 b2 acc3 hb7
              go_roundg (labN u.data.toList)
              case measure => rw [HUD.out]; omega
              case rel => exact ⟨u, nR, cR, aR, R, rfl, Nat.le_refl _, hus, by rw [HUD.out]; omega, by rw [HUD.out]; exact HUR.out, HBX.out.below HB7.out HLT.out, own_below HO.out HB7.out, HB.out.trans (HB7.out.mono HB.out.size), Nat.lt_of_lt_of_le HLT.out HB7.out.size, by rw [HUD.out]; exact HPE.out.isin HIN.out⟩
            · rw [decide_eq_false hin] at hpn
              have hpn2 : PL < 0 := by simpa using hpn
              have HIN := Lib.hid hin
              clear hin hpn
              go_wp2_with (first
                | (go_at_call 18; go_loud (refine (place_any _ aR nR cR R y (At.owns HO.out) (by omega)).mono ?_; rintro e w3 ⟨rfl, hq⟩; rw [HPL.out]; have acc3 : Below wr.heap.size wr w3 := (by obtain ⟨q, rfl⟩ := hq; exact below_drewN (Below.refl _ _) q); clear hq; have bb3 := HBX.out.below acc3 HLT.out; obtain ⟨b0, b1, b2, _⟩ := bb3))
                | (at_builtin; refine wpList_append_text _ rfl (.tmp 58) (.tmp 60) rfl (w.heap.size + 1) aR nR cR R rfl ((own_below HO.out acc3).alloc _) w3.heap.size y.data.toList rfl (heap_alloc_new _ _) (by omega) (by have := acc3.size; have := HLT.out; simp; omega) ?_; intro g6 c6 w6 hown6 hb6; have bb6 := (((HBX.out.below acc3 HLT.out).alloc (.cells #[.string y] 9)).below hb6 (Nat.lt_succ_self _)); have bb7 := bb6; obtain ⟨d0, d1, d2, df⟩ := bb7; have df0 := df 0; clear df)
                | (go_at_call 20; refine (refup_any _ y hys).mono ?_; rintro e w7 ⟨rfl, hb7⟩))
              have HB6 := Lib.hid hb6
              have HAC3 := Lib.hid acc3
              have HO6 := Lib.hid hown6
              have BB6 := Lib.hid bb6
              have HB7 := Lib.hid hb7
              rw [← HU.out]
              clear b0 b1 b2 d0 d1 d2 df0 bb6 hb6 acc3 hown6 hb7
              go_roundg (labN u.data.toList)
              case measure => rw [HUD.out]; omega
              case rel =>
                have hs3 := HAC3.out.size
                have hlt0 := HLT.out
                have hB6 : Below w.heap.size w w6 := (HB.out.trans (HAC3.out.mono HB.out.size)).trans ((((Below.refl _ _).alloc (by omega) _).trans (HB6.out.mono (by omega))).mono (Nat.le_refl _))
                have hB7 : Below w.heap.size w w7 := (hB6.setCell (p := ⟨w.heap.size, 0, none⟩) (Nat.le_refl _) _).trans (HB7.out.mono (by have := hB6.size; have := ((Below.refl w.heap.size w6).setCell (p := ⟨w.heap.size, 0, none⟩) (Nat.le_refl _) (.slice (some ⟨g6, 0, none⟩) (nR + 1) c6)).size; omega))
                have hl6 : w.heap.size < (w6.setCell ⟨w.heap.size, 0, none⟩ (.slice (some ⟨g6, 0, none⟩) (nR + 1) c6)).heap.size := by
                  have h1 := ((Below.refl w.heap.size w6).setCell (p := ⟨w.heap.size, 0, none⟩) (Nat.le_refl _) (.slice (some ⟨g6, 0, none⟩) (nR + 1) c6)).size
                  have h2 := HB6.out.size
                  simp at h2
                  omega
                refine ⟨u, nR + 1, c6, some ⟨g6, 0, none⟩, R ++ [y.data.toList], rfl, Nat.le_refl _, hus, by rw [HUD.out]; omega, by rw [HUD.out]; exact HUR.out, (BB6.out.set0 _).below HB7.out hl6, own_below (ownsRow_setCell_below HO6.out (a := ⟨w.heap.size, 0, none⟩) (Nat.lt_succ_self _) _) HB7.out, hB7, Nat.lt_of_lt_of_le hl6 HB7.out.size, by rw [HUD.out]; exact HPE.out.new HIN.out HYR.out⟩
  case rest =>
    obtain ⟨ar, nr, cr, R, hnR, HBX, HO, HB, HLT, HPE⟩ := hcut
    have hcr := own_cap HO.out
    have HNR := Lib.hid (At.owns HO.out).len
    obtain ⟨wo, rfl⟩ : ∃ wo : World, wo = wc := ⟨_, rfl⟩
    go_wp2
    go_loopg [10] nr (fun gg s10 wr => ∃ (i nl cl : Nat) (al : Option Addr) (L : List Link), i ≤ nr ∧ nr - i ≤ gg ∧ s10 = .int .i64 i ∧ nl ≤ i * 240 ∧ Aside (BoxAt wr w.heap.size (.slice ar nr cr) (.slice al nl cl) (.slice none 0 0)) ∧ Aside (wr.ownsRow wo.heap.size 37 2 (.slice al nl cl) nl (lnks L)) ∧ Aside (Off w.heap.size wo wr) ∧ Aside (Below w.heap.size w wr) ∧ Aside (LinkInv R L i 0))
    case atStart => exact ⟨0, 0, 0, none, [], by omega, by omega, rfl, by omega, HBX.out, World.ownsRow_nil _ _ _ _, Off.refl _ _, HB.out, LinkInv.nil R⟩
    case round =>
      obtain ⟨i, nl, cl, al, L, hi, hgg, rfl, hnl, HBX2, HOL, HOF, HB2, HLI⟩ := hrel
      obtain ⟨b0, b1, b2, _⟩ := HBX2.out
      by_cases hlt : i < nr
      · have hltz : (i : Int) < (nr : Int) := by omega
        go_wp2
        clear b0 b1 b2
        obtain ⟨wi, rfl⟩ : ∃ wi : World, wi = wr := ⟨_, rfl⟩
        go_loopg [11] nr (fun gg s11 wr => ∃ (k nl cl : Nat) (al : Option Addr) (L : List Link), k ≤ nr ∧ nr - k ≤ gg ∧ s11 = .int .i64 k ∧ nl ≤ i * 240 + k ∧ Aside (BoxAt wr w.heap.size (.slice ar nr cr) (.slice al nl cl) (.slice none 0 0)) ∧ Aside (wr.ownsRow wo.heap.size 37 2 (.slice al nl cl) nl (lnks L)) ∧ Aside (Off w.heap.size wo wr) ∧ Aside (Below w.heap.size w wr) ∧ Aside (LinkInv R L i k))
        case atStart => exact ⟨0, nl, cl, al, L, by omega, by omega, rfl, by omega, HBX2.out, HOL.out, HOF.out, HB2.out, HLI.out⟩
        case round =>
          clear HBX2 HOL HOF HB2 HLI
          obtain ⟨k, nl, cl, al, L, hk, hgg2, rfl, hnl2, HBX2, HOL, HOF, HB2, HLI⟩ := hrel
          obtain ⟨b0, b1, b2, _⟩ := HBX2.out
          by_cases hkt : k < nr
          · have hkz : (k : Int) < (nr : Int) := by omega
            have hi0 : (0 : Int) ≤ (i : Int) := by omega
            have hk0 : (0 : Int) ≤ (k : Int) := by omega
            obtain ⟨g, off, hge, hgl, hgc⟩ := (At.owns (HOF.out.own HO.out)).cell (show 0 < nr by omega)
            obtain ⟨p, hp⟩ : ∃ p : ByteArray, p = ⟨R[i]!.toArray⟩ := ⟨_, rfl⟩
            obtain ⟨q, hq⟩ : ∃ q : ByteArray, q = ⟨R[k]!.toArray⟩ := ⟨_, rfl⟩
            have hpd : p.data.toList = R[i]! := by rw [hp]
            have hqd : q.data.toList = R[k]! := by rw [hq]
            have c0 := hgc i hlt
            have c1 := hgc k hkt
            rw [← hp] at c0
            rw [← hq] at c1
            have hiR : i < R.length := by rw [HNR.out]; exact hlt
            have hkR : k < R.length := by rw [HNR.out]; exact hkt
            have hps : p.size < 90000 := by
              have h1 := isR_short (HPE.out.1 R[i]! (by rw [getElem!_pos R i hiR]; exact List.getElem_mem _))
              have h2 : p.size = R[i]!.length := by rw [hp]; rfl
              omega
            have hqs : q.size < 90000 := by
              have h1 := isR_short (HPE.out.1 R[k]! (by rw [getElem!_pos R k hkR]; exact List.getElem_mem _))
              have h2 : q.size = R[k]!.length := by rw [hq]; rfl
              omega
            obtain ⟨u, huu⟩ : ∃ u : ByteArray, u = ⟨(upOf p.data.toList).toArray⟩ := ⟨_, rfl⟩
            obtain ⟨v, hvv⟩ : ∃ v : ByteArray, v = ⟨(upOf q.data.toList).toArray⟩ := ⟨_, rfl⟩
            have hud : u.data.toList = upOf R[i]! := by rw [huu, hpd]
            have hvd : v.data.toList = upOf R[k]! := by rw [hvv, hqd]
            have k1 := eq_bytes u q
            have k2 := eq_bytes v p
            have k3 : (u.toList == []) = decide (u.data.toList = []) := by rw [ByteArray.toList_eq, Bool.eq_iff_iff]; simp
            have k4 : (v.toList == []) = decide (v.data.toList = []) := by rw [ByteArray.toList_eq, Bool.eq_iff_iff]; simp
            have hj := joined_at HPE.out.2.2 hiR hkR
            rw [← hud, ← hvd, ← hpd, ← hqd] at hj
            obtain ⟨J, hJ⟩ : ∃ J, J = joined p.data.toList q.data.toList := ⟨_, rfl⟩
            rw [← hJ] at hj
            have HJ := Lib.hid hJ
            have HU := Lib.hid huu
            have HV := Lib.hid hvv
            have HPD := Lib.hid hpd
            have HQD := Lib.hid hqd
            have HI := Lib.hid hiR
            have HK := Lib.hid hkR
            subst hge
            clear hgc hp hq hpd hqd hJ huu hvv hud hvd hiR hkR
            go_wp2_with fail
            go_quiet (fail)
            go_upto_region 19 with fail
            have acq : Below wr.heap.size wr (wr.drewN nq) := below_drewN (Below.refl _ _) nq
            go_cut [111] from 70 to 119 (fun vv wx => vv = .bool J ∧ Aside (Below wr.heap.size wr wx))
            case first =>
              clear b0 b1 b2 c0 c1
              have t1 : True := trivial
              have t2 : True ∧ True := ⟨trivial, trivial⟩
              have t3 : True ∧ True ∧ True := ⟨trivial, trivial, trivial⟩
              cases e1 : decide (u.data.toList = q.data.toList) with
              | true =>
                rw [e1] at k1 hj
                clear e1 k2 k3 k4
                simp only [Bool.true_or, Bool.false_or, Bool.or_true, Bool.true_and, Bool.false_and, Bool.and_true, Bool.and_false, Bool.or_false] at hj
                subst hj
                go_wp2_with (first
                  | (go_at_call 20; have _t := t1; refine (refup_any _ p hps).mono ?_; rintro e x1 ⟨rfl, hb⟩; rw [← HU.out]; replace acq := acq.trans (hb.mono acq.size); clear hb t1))
                go_meet
                case rel => exact ⟨rfl, acq⟩
              | false =>
                rw [e1] at k1 hj
                clear e1
                cases e2 : decide (v.data.toList = p.data.toList) with
                | true =>
                  rw [e2] at k2 hj
                  clear e2 k3 k4
                  simp only [Bool.true_or, Bool.false_or, Bool.or_true, Bool.true_and, Bool.false_and, Bool.and_true, Bool.and_false, Bool.or_false] at hj
                  subst hj
                  go_wp2_with (first
                    | (go_at_call 20; have _t := t1; refine (refup_any _ p hps).mono ?_; rintro e x1 ⟨rfl, hb⟩; rw [← HU.out]; replace acq := acq.trans (hb.mono acq.size); clear hb t1)
                    | (go_at_call 20; have _t := t2; refine (refup_any _ q hqs).mono ?_; rintro e x2 ⟨rfl, hb⟩; rw [← HV.out]; replace acq := acq.trans (hb.mono acq.size); clear hb t2))
                  go_meet
                  case rel => exact ⟨rfl, acq⟩
                | false =>
                  rw [e2] at k2 hj
                  clear e2
                  by_cases hik : i = k
                  · rw [decide_eq_false (show ¬ i ≠ k from fun h => h hik)] at hj
                    have hikb : ((i : Int) == (k : Int)) = true := by rw [hik]; simp
                    have hikn : ((i : Int) != (k : Int)) = false := by rw [hik]; simp
                    clear hik k3 k4
                    simp only [Bool.true_or, Bool.false_or, Bool.or_true, Bool.true_and, Bool.false_and, Bool.and_true, Bool.and_false, Bool.or_false] at hj
                    subst hj
                    go_wp2_with (first
                      | (go_at_call 20; have _t := t1; refine (refup_any _ p hps).mono ?_; rintro e x1 ⟨rfl, hb⟩; rw [← HU.out]; replace acq := acq.trans (hb.mono acq.size); clear hb t1)
                      | (go_at_call 20; have _t := t2; refine (refup_any _ q hqs).mono ?_; rintro e x2 ⟨rfl, hb⟩; rw [← HV.out]; replace acq := acq.trans (hb.mono acq.size); clear hb t2))
                    go_meet
                    case rel => exact ⟨rfl, acq⟩
                  · rw [decide_eq_true (show i ≠ k from hik)] at hj
                    have hikz : ¬ (i : Int) = (k : Int) := by omega
                    have hikb : ((i : Int) == (k : Int)) = false := by simpa using hikz
                    have hikn : ((i : Int) != (k : Int)) = true := by simpa using hikz
                    clear hik
                    cases e3 : decide (u.data.toList = []) with
                    | false =>
                      rw [e3] at k3 hj
                      clear e3 k4
                      simp only [Bool.true_or, Bool.false_or, Bool.or_true, Bool.true_and, Bool.false_and, Bool.and_true, Bool.and_false, Bool.or_false] at hj
                      subst hj
                      go_wp2_with (first
                        | (go_at_call 20; have _t := t1; refine (refup_any _ p hps).mono ?_; rintro e x1 ⟨rfl, hb⟩; rw [← HU.out]; replace acq := acq.trans (hb.mono acq.size); clear hb t1)
                        | (go_at_call 20; have _t := t2; refine (refup_any _ q hqs).mono ?_; rintro e x2 ⟨rfl, hb⟩; rw [← HV.out]; replace acq := acq.trans (hb.mono acq.size); clear hb t2)
                        | (go_at_call 20; have _t := t3; refine (refup_any _ p hps).mono ?_; rintro e x3 ⟨rfl, hb⟩; rw [← HU.out]; replace acq := acq.trans (hb.mono acq.size); clear hb t3))
                      go_meet
                      case rel => exact ⟨rfl, acq⟩
                    | true =>
                      rw [e3] at k3 hj
                      clear e3
                      cases e4 : decide (v.data.toList = []) with
                      | false =>
                        rw [e4] at k4 hj
                        clear e4
                        simp only [Bool.true_or, Bool.false_or, Bool.or_true, Bool.true_and, Bool.false_and, Bool.and_true, Bool.and_false, Bool.or_false] at hj
                        subst hj
                        go_wp2_with (first
                          | (go_at_call 20; have _t := t1; refine (refup_any _ p hps).mono ?_; rintro e x1 ⟨rfl, hb⟩; rw [← HU.out]; replace acq := acq.trans (hb.mono acq.size); clear hb t1)
                          | (go_at_call 20; have _t := t2; refine (refup_any _ q hqs).mono ?_; rintro e x2 ⟨rfl, hb⟩; rw [← HV.out]; replace acq := acq.trans (hb.mono acq.size); clear hb t2)
                          | (go_at_call 20; have _t := t3; refine (refup_any _ p hps).mono ?_; rintro e x3 ⟨rfl, hb⟩; rw [← HU.out]; replace acq := acq.trans (hb.mono acq.size); clear hb t3)
                          | (go_at_call 20; refine (refup_any _ q hqs).mono ?_; rintro e x4 ⟨rfl, hb⟩; rw [← HV.out]; replace acq := acq.trans (hb.mono acq.size); clear hb))
                        go_meet
                        case rel => exact ⟨rfl, acq⟩
                      | true =>
                        rw [e4] at k4 hj
                        clear e4
                        simp only [Bool.true_or, Bool.false_or, Bool.or_true, Bool.true_and, Bool.false_and, Bool.and_true, Bool.and_false, Bool.or_false] at hj
                        subst hj
                        go_wp2_with (first
                          | (go_at_call 20; have _t := t1; refine (refup_any _ p hps).mono ?_; rintro e x1 ⟨rfl, hb⟩; rw [← HU.out]; replace acq := acq.trans (hb.mono acq.size); clear hb t1)
                          | (go_at_call 20; have _t := t2; refine (refup_any _ q hqs).mono ?_; rintro e x2 ⟨rfl, hb⟩; rw [← HV.out]; replace acq := acq.trans (hb.mono acq.size); clear hb t2)
                          | (go_at_call 20; have _t := t3; refine (refup_any _ p hps).mono ?_; rintro e x3 ⟨rfl, hb⟩; rw [← HU.out]; replace acq := acq.trans (hb.mono acq.size); clear hb t3)
                          | (go_at_call 20; refine (refup_any _ q hqs).mono ?_; rintro e x4 ⟨rfl, hb⟩; rw [← HV.out]; replace acq := acq.trans (hb.mono acq.size); clear hb))
                        go_meet
                        case rel => exact ⟨rfl, acq⟩
            case rest =>
              obtain ⟨rfl, HWX⟩ := hcut
              clear b0 b1 b2 c0 c1 k1 k2 k3 k4
              have hltw : w.heap.size < wr.heap.size := Nat.lt_of_lt_of_le HLT.out HOF.out.size
              obtain ⟨b0, b1, b2, _⟩ := HBX2.out.below HWX.out hltw
              cases J with
              | false =>
                clear hj
                go_wp2
                go_roundg (nr - (k + 1))
                case measure => omega
                case rel => exact ⟨k + 1, nl, cl, al, L, by omega, by omega, by go_num, by omega, HBX2.out.below HWX.out hltw, ownL_below HOL.out HWX.out, HOF.out.below HWX.out HOF.out.size, HB2.out.trans (HWX.out.mono HB2.out.size), HLI.out.no (by rw [← HPD.out, ← HQD.out]; exact HJ.out.symm)⟩
              | true =>
                clear hj
                go_wp2_with (at_builtin; refine wpList_append_link _ rfl (.tmp 113) (.tmp 117) rfl wo.heap.size al nl cl L rfl ((ownL_below HOL.out HWX.out).alloc _) wc.heap.size p.data.toList q.data.toList rfl (heap_alloc_new _ _) (by omega) (by have := HWX.out.size; have := HOF.out.size; simp; omega) ?_; intro g6 c6 w6 hown6 hb6; have bb6 := (((HBX2.out.below HWX.out hltw).alloc (.cells #[.string p, .string q] 37)).below hb6 HLT.out); have bb7 := bb6; obtain ⟨d0, d1, d2, df⟩ := bb7; have df1 := df 1; clear df)
                have HB6 := Lib.hid hb6
                have HO6 := Lib.hid hown6
                have BB6 := Lib.hid bb6
                clear b0 b1 b2 d0 d1 d2 df1 bb6 hb6 hown6
                go_roundg (nr - (k + 1))
                case measure => omega
                case rel =>
                  have hal : Below wc.heap.size wc (wc.alloc (.cells #[.string p, .string q] 37)) := (Below.refl _ _).alloc (Nat.le_refl _) _
                  have hof := ((HOF.out.below HWX.out HOF.out.size).below hal (Nat.le_trans HOF.out.size HWX.out.size)).below HB6.out (Nat.le_refl _)
                  have hbl := ((HB2.out.trans (HWX.out.mono HB2.out.size)).trans (hal.mono (Nat.le_trans HB2.out.size HWX.out.size))).trans (HB6.out.mono HB.out.size)
                  refine ⟨k + 1, nl + 1, c6, some ⟨g6, 0, none⟩, L ++ [(p.data.toList, q.data.toList)], by omega, by omega, by go_num, by omega, BB6.out.set1 _, ownsRow_setCell_below HO6.out (a := ⟨w.heap.size, 1, none⟩) HLT.out _, hof.set 1 _, hbl.setCell (p := ⟨w.heap.size, 1, none⟩) (Nat.le_refl _) _, ?_⟩
                  rw [HPD.out, HQD.out]
                  exact HLI.out.yes HI.out HK.out (by rw [← HPD.out, ← HQD.out]; exact HJ.out.symm)
          · have hkn : nr = k := by omega
            subst hkn
            go_wp2
            go_roundg (nr - (i + 1))
            case measure => omega
            case rel => exact ⟨i + 1, nl, cl, al, L, by omega, by omega, by go_num, by omega, HBX2.out, HOL.out, HOF.out, HB2.out, LinkInv.row (by rw [HNR.out]; exact HLI.out)⟩
      · have hin : nr = i := by omega
        subst hin
        obtain ⟨wt, rfl⟩ : ∃ wt : World, wt = wr := ⟨_, rfl⟩
        have hT : Tt wt ⟨ar, nr, cr, al, nl, cl, none, 0, 0⟩ ⟨R, L, []⟩ := ⟨At.owns (HOF.out.own HO.out), LinksAt.owns HOL.out, WaysAt.nil _ _, hcr, ownL_cap HOL.out, Nat.le_refl _⟩
        obtain ⟨T, hTT⟩ : ∃ T : Topo, T = ⟨R, L, []⟩ := ⟨_, rfl⟩
        rw [← hTT] at hT
        have hltw : w.heap.size < wt.heap.size := Nat.lt_of_lt_of_le HLT.out HOF.out.size
        have keep : ∀ W, Below wt.heap.size wt W → W.cell? ⟨w.heap.size, 0, none⟩ = some (.slice ar nr cr) ∧ W.cell? ⟨w.heap.size, 1, none⟩ = some (.slice al nl cl) ∧ W.cell? ⟨w.heap.size, 2, none⟩ = some (.slice none 0 0) := fun W h => by obtain ⟨x0, x1, x2, _⟩ := HBX2.out.below h hltw; exact ⟨x0, x1, x2⟩
        have hlen : T.realms.length = nr := hT.r.len
        have hshort : ∀ r ∈ T.realms, r.length ≤ 37 := fun r hr => isR_short (HPE.out.1 r (by rw [hTT] at hr; exact hr))
        have hS : Short T := by rw [hTT]; exact ⟨by simp, fun p hp => by cases hp⟩
        have hRI := refIs7_any wt ⟨ar, nr, cr, al, nl, cl, none, 0, 0⟩ T hT (fun r hr => by have := hshort r hr; omega) (by dsimp only; omega) (by dsimp only; omega) (by dsimp only; omega)
        dsimp only at hRI
        have HGT := Lib.hid (HG.out.below HB2.out)
        have KEEP := Lib.hid keep
        have ACC := Lib.hid HB2.out
        have HT1 := Lib.hid hT
        have HS := Lib.hid hS
        by_cases hok : topoOk T
        case neg =>
          rw [decide_eq_false hok] at hRI
          clear hok hS hshort hlen keep hltw hTT hT HBX2 HOL HOF HB2 HLI
          go_wp2_with (go_at_call 13; refine hRI.mono ?_; rintro e w3 ⟨rfl, hb3⟩)
          go_ret
          exact ⟨rfl, ACC.out.trans (hb3.mono ACC.out.size)⟩
        rw [decide_eq_true hok] at hRI
        have hn1 : 1 ≤ nr := by have := hok.1.1; omega
        have hn6 : nr ≤ 6 := by have := hok.1.2.1; omega
        have hTR : Tree T := by
          have h2 := HPE.out
          have h3 : LinkInv R L R.length 0 := by rw [HNR.out]; exact HLI.out
          rw [hTT]
          rw [hTT] at hlen
          exact ⟨h2.closed, by show R.length ≤ 6; have : R.length = nr := hlen; omega, fun p q => h3.done p q, rfl⟩
        have hPK : ∀ W, Below wt.heap.size wt W → ∀ k : Int, Calls Tryd.prog 15 #[.agg #[.slice ar nr cr, .slice al nl cl, .slice none 0 0], .int .i64 k] W fun e w' => ∃ X : ByteArray, e = .returned (.string X) ∧ (X.data.toList ∈ T.realms ∧ X.size < 90000) ∧ Below W.heap.size W w' := fun W h k => by
          refine (pick_any W ⟨ar, nr, cr, al, nl, cl, none, 0, 0⟩ T k (hT.below h) (by dsimp only; omega) (by dsimp only; omega)).mono ?_
          rintro e w' ⟨rfl, hb⟩
          have hm := pick_mem (T := T) (by omega) k
          exact ⟨_, rfl, ⟨hm, by have := hshort _ hm; show (pickOf T k).length < 90000; omega⟩, hb⟩
        have HPK := Lib.hid hPK
        have HTR := Lib.hid hTR
        have tok : True := trivial
        clear hok hS hshort hlen keep hltw hTT hT HBX2 HOL HOF HB2 HLI hPK hTR
        go_wp2_with (go_at_call 13; refine hRI.mono ?_; rintro e w3 ⟨rfl, hb3⟩; have acc : Below wt.heap.size wt w3 := hb3; clear hb3 b0 b1 b2; obtain ⟨b0, b1, b2⟩ := KEEP.out _ acc)
        clear hRI b0 b1 b2
        replace acc := acc.drew
        have KEEP2 := Lib.hid KEEP.out
        go_region_held3 (fun W => W.cell? ⟨w.heap.size, 0, none⟩ = some (.slice ar nr cr) ∧ W.cell? ⟨w.heap.size, 1, none⟩ = some (.slice al nl cl) ∧ W.cell? ⟨w.heap.size, 2, none⟩ = some (.slice none 0 0)) (first | exact KEEP.out _ acc | go_keep)
          (first
            | (go_at_call 15; have _t := tok; refine (HPK.out _ acc _).mono ?_; rintro e w4 ⟨X, rfl, hX, hb4⟩; replace acc := acc.trans (hb4.mono acc.size); clear hb4 tok)
            | (go_at_call 15; refine (HPK.out _ acc _).mono ?_; rintro e w5 ⟨Y, rfl, hY, hb5⟩; replace acc := acc.trans (hb5.mono acc.size); clear hb5))
        obtain ⟨hXm, hXs⟩ := hX
        obtain ⟨hYm, hYs⟩ := hY
        obtain ⟨e1, h5⟩ := tree_walk HTR.out hXm hYm
        have HWK := Lib.hid e1
        obtain ⟨m, hm⟩ : ∃ m, m = (betOf X.data.toList Y.data.toList).length := ⟨_, rfl⟩
        rw [← hm] at h5
        have HM := Lib.hid hm
        have h5z : (m : Int) ≤ 5 := by omega
        obtain ⟨a0, a1, a2⟩ := KEEP.out _ acc
        clear e1 hm hXm hYm
        go_wp2_with (first
          | (go_at_call 16; refine (walk_any _ ⟨ar, nr, cr, al, nl, cl, none, 0, 0⟩ T X Y (HT1.out.below acc) HS.out (by dsimp only; omega) (HGT.out.below acc) hXs hYs).mono ?_; intro e w7 hp; rw [HWK.out] at hp; unfold WalkPost at hp; simp only at hp; rw [← HM.out] at hp; obtain ⟨adw, cw, rfl, hAw, hb7⟩ := hp; replace acc := acc.trans (hb7.mono acc.size); clear hb7)
          | (go_at_call 21; refine (refbet_any _ X Y hXs hYs).mono ?_; intro e w8 hp; unfold BetPost at hp; rw [← HM.out] at hp; obtain ⟨adb, cb, rfl, hob, hb8⟩ := hp; replace acc := acc.trans (hb8.mono acc.size); replace hAw := hAw.below hb8; clear hb8)
          | (go_at_call 22; refine (texts_any _ adw adb m cw m cb (betOf X.data.toList Y.data.toList) (betOf X.data.toList Y.data.toList) hAw (At.owns hob) (by omega) (by omega)).mono ?_; rintro e w9 ⟨rfl, hb9⟩; rw [decide_eq_true (rfl : betOf X.data.toList Y.data.toList = betOf X.data.toList Y.data.toList)]; replace acc := acc.trans (hb9.mono acc.size); clear hb9)
          | (go_at_call 14; refine (known_any _ (HGT.out.below acc)).mono ?_; rintro e w10 ⟨rfl, hb10⟩; replace acc := acc.trans (hb10.mono acc.size); clear hb10))
        go_ret
        exact ⟨rfl, ACC.out.trans (acc.mono ACC.out.size)⟩
end Go.Proofs.YtcleonpckgfdhaaDoor
