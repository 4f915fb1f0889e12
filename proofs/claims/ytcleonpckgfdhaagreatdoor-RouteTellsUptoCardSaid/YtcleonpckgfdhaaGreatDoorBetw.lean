/-
  name.Between.
-/
import Derived.Test.YtcleonpckgfdhaaGreatDoorDel
import Derived.Test.YtcleonpckgfdhaaGreatDoorApp
import Derived.Deep.CutBlock
set_option linter.unusedVariables false
set_option linter.unusedSimpArgs false
namespace Go.Proofs.YtcleonpckgfdhaaGreatDoor
open Go Go.RowKit Go.Lib Go.Shelf

theorem contains_any (w : World) (ad : Option Addr) (n c : Nat) (l : List Str) (y : Str) (hA : At w ad n l) (hn : n ≤ 100000) :
    Calls Tryz.prog 25 #[.slice ad n c, .string ⟨y.toArray⟩] w fun e w' => e = .returned (.bool (decide (y ∈ l))) ∧ w' = w := by
  have hl := hA.len
  by_cases h0 : n = 0
  · subst h0
    have : l = [] := List.length_eq_zero_iff.1 hl
    subst this
    refine (Tryz.slices_Contains_string_empty ad c _ w).mono ?_
    rintro e w' ⟨rfl, rfl⟩
    exact ⟨rfl, rfl⟩
  · obtain ⟨b, off, rfl, hlt, hcell⟩ := hA.cell (by omega)
    refine (Tryz.slices_Contains_string b off n c (bytesOf l) ⟨y.toArray⟩ w (by rw [bytesOf_len, hl]; exact Nat.le_refl _) (by omega) (fun j hj => by rw [bytesOf_len, hl] at hj; rw [hcell j hj, bytesOf_get l j (by omega)])).mono ?_
    rintro e w' ⟨rfl, rfl⟩
    refine ⟨?_, rfl⟩
    rw [show (bytesOf l).take n = bytesOf l by rw [← hl, ← bytesOf_len, List.take_length]]
    congr 2
    rw [Bool.eq_iff_iff, decide_eq_true_iff]
    rw [Lib.containsS_iff]
    simp [bytesOf]

def BetPost (w w' : World) (a b : Str) (e : Ending) : Prop := ∃ ad c, e = .returned (.slice ad (betOf a b).length c) ∧ w'.ownsRow w.heap.size 9 1 (.slice ad (betOf a b).length c) (betOf a b).length (strs (betOf a b)) ∧ Below w.heap.size w w'

theorem betOf_none {a b : Str} (h : kindOf a = 0 ∨ kindOf b = 0) : betOf a b = [] := by unfold betOf; rw [if_pos h]

set_option maxHeartbeats 4000000 in
set_option maxRecDepth 1000000 in
theorem between_any (w : World) (a b : ByteArray) (hg : Glob w) (ha : a.size < 90000) (hb : b.size < 90000) :
    Calls Tryz.prog 27 #[.string a, .string b] w fun e w' => BetPost w w' a.data.toList b.data.toList e := by
  have hb0 : Below w.heap.size w ((w.alloc (.cells #[.string a] 9)).alloc (.cells #[.string b] 9)) := ((Below.refl _ _).alloc (Nat.le_refl _) _).alloc (by simp) _
  have hh : ((w.alloc (.cells #[.string a] 9)).alloc (.cells #[.string b] 9)).heap.size = w.heap.size + 2 := by simp
  have e0 : ((w.alloc (.cells #[.string a] 9)).alloc (.cells #[.string b] 9)).cell? ⟨w.heap.size, 0, none⟩ = some (.string a) := (cell_of_row _ _ _ _ _ _ ((heap_alloc_old (w.alloc (.cells #[.string a] 9)) (.cells #[.string b] 9) (by simp)).trans (heap_alloc_new w (.cells #[.string a] 9)))).trans rfl
  have e1 : ((w.alloc (.cells #[.string a] 9)).alloc (.cells #[.string b] 9)).cell? ⟨w.heap.size + 1, 0, none⟩ = some (.string b) := by
    have h := heap_alloc_new (w.alloc (.cells #[.string a] 9)) (.cells #[.string b] 9)
    rw [show (w.alloc (.cells #[.string a] 9)).heap.size = w.heap.size + 1 by simp] at h
    exact (cell_of_row _ _ _ _ _ _ h).trans rfl
  generalize hW2 : (w.alloc (.cells #[.string a] 9)).alloc (.cells #[.string b] 9) = W2 at *
  have hs1 : (w.alloc (.cells #[.string a] 9)).heap.size = w.heap.size + 1 := by simp
  have HG := Lib.hid (hg.below hb0)
  have keep : ∀ w2, Below W2.heap.size W2 w2 → w2.cell? ⟨w.heap.size, 0, none⟩ = some (.string a) ∧ w2.cell? ⟨w.heap.size + 1, 0, none⟩ = some (.string b) := fun w2 hb => ⟨(hb.cell (p := ⟨w.heap.size, 0, none⟩) (by rw [hh]; show w.heap.size < _; omega)).trans e0, (hb.cell (p := ⟨w.heap.size + 1, 0, none⟩) (by rw [hh]; show w.heap.size + 1 < _; omega)).trans e1⟩
  have KP := Lib.hid keep
  have H0 := Lib.hid hb0
  have HH := Lib.hid hh
  clear hb0 hh keep hg
  have hL := fun w hg => labels_any w a hg ha
  have hL2 := fun w hg => labels_any w b hg hb
  by_cases hk : kindOf a.data.toList = 0
  · have hk2 : (labelsOf a.data.toList).2 = 0 := hk
    have hbet := Lib.hid (betOf_none (b := b.data.toList) (.inl hk))
    go_enter Tryz.func27, Tryz.ntmps27
    go_wp2_with (first
      | (go_at_call 39; refine (hL _ HG.out).mono ?_; rintro e w3 ⟨ad, c, rfl, hA, hc, hb3⟩; clear hL; obtain ⟨f0, f1⟩ := KP.out w3 hb3)
      | (go_at_call 39; refine (hL2 _ (HG.out.below hb3)).mono ?_; rintro e w4 ⟨ad2, c2, rfl, hA2, hc2, hb4⟩))
    go_ret
    have h4 := hb3.trans (hb4.mono hb3.size)
    exact ⟨none, 0, by rw [hbet.out]; rfl, by rw [hbet.out]; exact World.ownsRow_nil _ _ _ _, H0.out.trans (h4.mono H0.out.size)⟩
  · by_cases hj : kindOf b.data.toList = 0
    · have hj2 : (labelsOf b.data.toList).2 = 0 := hj
      have hbet := Lib.hid (betOf_none (a := a.data.toList) (.inr hj))
      have hkz : ((labelsOf a.data.toList).2 : Int) ≠ 0 := by have : (labelsOf a.data.toList).2 ≠ 0 := hk; omega
      go_enter Tryz.func27, Tryz.ntmps27
      go_wp2_with (first
        | (go_at_call 39; refine (hL _ HG.out).mono ?_; rintro e w3 ⟨ad, c, rfl, hA, hc, hb3⟩; clear hL; obtain ⟨f0, f1⟩ := KP.out w3 hb3)
        | (go_at_call 39; refine (hL2 _ (HG.out.below hb3)).mono ?_; rintro e w4 ⟨ad2, c2, rfl, hA2, hc2, hb4⟩))
      go_ret
      have h4 := hb3.trans (hb4.mono hb3.size)
      exact ⟨none, 0, by rw [hbet.out]; rfl, by rw [hbet.out]; exact World.ownsRow_nil _ _ _ _, H0.out.trans (h4.mono H0.out.size)⟩
    · have hGa := (good_of_kind hk).1
      have hGb := (good_of_kind hj).1
      have hbet : betOf a.data.toList b.data.toList = others a.data.toList b.data.toList (dn (ups (labelsOf a.data.toList).1 (labelsOf a.data.toList).2 (max (sameLen a.data.toList b.data.toList) 1 - 1)) (labelsOf b.data.toList).1 (labelsOf b.data.toList).2 (max (sameLen a.data.toList b.data.toList) 1) ((labelsOf b.data.toList).1.length - max (sameLen a.data.toList b.data.toList) 1)) := by unfold betOf; rw [if_neg (by rintro (h | h); exact hk h; exact hj h)]; rfl
      have hsame : sameLen a.data.toList b.data.toList = if (labelsOf a.data.toList).2 = (labelsOf b.data.toList).2 then comLen (labelsOf a.data.toList).1 (labelsOf b.data.toList).1 else 0 := rfl
      have hk' : (labelsOf a.data.toList).2 ≠ 0 := hk
      have hj' : (labelsOf b.data.toList).2 ≠ 0 := hj
      have hGa' : Good (labelsOf a.data.toList).1 (labelsOf a.data.toList).2 := hGa
      have hGb' : Good (labelsOf b.data.toList).1 (labelsOf b.data.toList).2 := hGb
      have hsl := sameLen_le a.data.toList b.data.toList
      clear hGa hGb hk hj
      unfold LabPost at hL hL2
      unfold BetPost
      generalize betOf a.data.toList b.data.toList = R at *
      generalize sameLen a.data.toList b.data.toList = s at *
      generalize (labelsOf a.data.toList).1 = L at *
      generalize (labelsOf a.data.toList).2 = K at *
      generalize (labelsOf b.data.toList).1 = M at *
      generalize (labelsOf b.data.toList).2 = J at *
      have HR := Lib.hid hbet
      have HS := Lib.hid hsame
      have hkz : (K : Int) ≠ 0 := by omega
      have hjz : (J : Int) ≠ 0 := by omega
      have hkb : ((K : Int) == 0) = false := by simpa using hkz
      have hjb : ((J : Int) == 0) = false := by simpa using hjz
      have HGA := Lib.hid hGa'
      have HGB := Lib.hid hGb'
      have hlf := hGa'.few
      have hmf := hGb'.few
      have hln : 1 ≤ L.length := List.length_pos_iff.2 hGa'.ne
      have hmn : 1 ≤ M.length := List.length_pos_iff.2 hGb'.ne
      clear hbet hsame hGa' hGb' hk' hj'
      go_enter Tryz.func27, Tryz.ntmps27
      go_upto_block 0 with (first
        | (go_at_call 39; refine (hL _ HG.out).mono ?_; rintro e w3 ⟨ad, c, rfl, hA, hc, hb3⟩; clear hL; obtain ⟨f0, f1⟩ := KP.out w3 hb3)
        | (go_at_call 39; refine (hL2 _ (HG.out.below hb3)).mono ?_; rintro e w4 ⟨ad2, c2, rfl, hA2, hc2, hb4⟩))
      go_cut [9] from 30 to 54 (fun v9 wx => v9 = .int .i64 s ∧ ∃ q, wx = w4.drewN q)
      case first =>
        have HA := Lib.hid (hA.below hb4)
        have HA2 := Lib.hid hA2
        clear hA hA2 f0 f1 e0 e1
        go_wp2_with fail
        go_loopg [9] 4 (fun gg s9 wr => ∃ j : Nat, j ≤ s ∧ 4 - j ≤ gg ∧ s9 = .int .i64 j ∧ Aside (∃ q, wr = w4.drewN q))
        case atStart => exact ⟨0, by omega, by omega, rfl, 0, rfl⟩
        case round =>
          obtain ⟨j, hj, hgg, rfl, HQ⟩ := hrel
          by_cases hkj : K = J
          · have hkjb : ((K : Int) == (J : Int)) = true := by simp [hkj]
            have hcom : s = comLen L M := by have := HS.out; rw [if_pos hkj] at this; exact this
            by_cases hlt : j < L.length ∧ j < M.length
            · obtain ⟨hl1, hl2⟩ := hlt
              have hmin : (j : Int) < min (L.length : Int) (M.length : Int) := by omega
              have hj1 : (j : Int) < (L.length : Int) := by omega
              have hj2 : (j : Int) < (M.length : Int) := by omega
              obtain ⟨b1, off1, hb1, hbl1, hc1⟩ := HA.out.cell (by omega)
              obtain ⟨b2, off2, hb2, hbl2, hc2⟩ := HA2.out.cell (by omega)
              obtain ⟨x, HX⟩ : ∃ x, Aside (L[j]! = x) := ⟨_, rfl⟩
              obtain ⟨y, HY⟩ : ∃ y, Aside (M[j]! = y) := ⟨_, rfl⟩
              have hcw : ∀ p, wr.cell? p = w4.cell? p := fun p => by obtain ⟨q, hq⟩ := HQ.out; rw [hq, World.cell?_drewN]
              have c1 := (hcw _).trans (hc1 j hl1)
              have c2 := (hcw _).trans (hc2 j hl2)
              rw [HX.out] at c1
              rw [HY.out] at c2
              subst hb1 hb2
              have hstep : x = y → j + 1 ≤ s := fun e => by
                rw [hcom]
                rcases Nat.lt_or_ge j (comLen L M) with h | h
                · omega
                · have h' : comLen L M = j := by omega
                  have := comLen_stop L M (by omega) (by omega)
                  rw [h', HX.out, HY.out] at this
                  exact absurd e this
              have hstop : x ≠ y → j = s := fun e => by
                rcases Nat.lt_or_ge j (comLen L M) with h | h
                · have := comLen_at L M j h
                  rw [HX.out, HY.out] at this
                  exact absurd this e
                · omega
              have HST := Lib.hid hstep
              have HSP := Lib.hid hstop
              clear hc1 hc2 hcw hstep hstop hcom
              by_cases hxy : x = y
              · have hb' : ((⟨x.toArray⟩ : ByteArray).toList == (⟨y.toArray⟩ : ByteArray).toList) = true := by rw [hxy]; simp
                have hb2' : (x == y) = true := by simp [hxy]
                have HXY := Lib.hid hxy
                clear hxy
                go_wp2
                go_quiet (fail)
                go_wp2
                go_roundg (4 - (j + 1))
                case measure => omega
                case rel =>
                  obtain ⟨q, hq⟩ := HQ.out
                  exact ⟨j + 1, HST.out HXY.out, by omega, by go_num, ⟨q + nq, by rw [hq, World.drewN_drewN]⟩⟩
              · have hb' : ((⟨x.toArray⟩ : ByteArray).toList == (⟨y.toArray⟩ : ByteArray).toList) = false := by rw [toList_data, toList_data]; simpa using hxy
                have hb2' : (x == y) = false := by simpa using hxy
                have HXY := Lib.hid hxy
                clear hxy
                go_wp2
                go_quiet (fail)
                go_wp2
                go_meet
                case rel =>
                  obtain ⟨q, hq⟩ := HQ.out
                  exact ⟨by rw [HSP.out HXY.out], q + nq, by rw [hq, World.drewN_drewN]⟩
            · have hmin : ¬ (j : Int) < min (L.length : Int) (M.length : Int) := by omega
              have hjs : j = s := by
                have := comLen_le L M
                omega
              have HJS := Lib.hid hjs
              clear hjs hcom
              have hmin2 : decide ((j : Int) < min (L.length : Int) (M.length : Int)) = false := by simp; omega
              clear hmin hlt
              go_wp2
              go_quiet (fail)
              go_wp2
              go_meet
              case rel =>
                obtain ⟨q, hq⟩ := HQ.out
                exact ⟨by rw [HJS.out], q + nq, by rw [hq, World.drewN_drewN]⟩
          · have hkjb : ((K : Int) == (J : Int)) = false := by simp; omega
            have hjs : j = s := by have := HS.out; rw [if_neg hkj] at this; omega
            have HJS := Lib.hid hjs
            clear hjs
            go_wp2
            go_quiet (fail)
            go_wp2
            go_meet
            case rel =>
              obtain ⟨q, hq⟩ := HQ.out
              exact ⟨by rw [HJS.out], q + nq, by rw [hq, World.drewN_drewN]⟩
      case rest =>
        obtain ⟨rfl, q0, hwc⟩ := hcut
        obtain ⟨lo, hlo⟩ : ∃ lo, lo = max s 1 := ⟨_, rfl⟩
        have hloz : max (s : Int) 1 = (lo : Int) := by omega
        have hlo1 : 1 ≤ lo := by omega
        have hloL : lo ≤ L.length := by omega
        have hloM : lo ≤ M.length := by omega
        have hb5 : Below w4.heap.size w4 wc := by rw [hwc]; exact below_drewN (Below.refl _ _) _
        have hB5 : Below W2.heap.size W2 wc := (hb3.trans (hb4.mono hb3.size)).trans (hb5.mono (by have := hb3.size; have := hb4.size; omega))
        have HA := Lib.hid ((hA.below hb4).below hb5)
        have HA2 := Lib.hid (hA2.below hb5)
        have HB5 := Lib.hid hB5
        rw [← hlo] at HR
        clear hwc hb5 hB5 hb3 hb4 hA hA2 f0 f1 e0 e1 hlo HS hsl
        go_wp2_with fail
        go_loopg [10, 11] L.length (fun gg s10 s11 wr => ∃ (n : Nat) (ad' : Option Addr) (c' : Nat), lo ≤ n + 1 ∧ n + 1 ≤ L.length ∧ n ≤ gg ∧ s11 = .int .i64 n ∧ s10 = .slice ad' (L.length - 1 - n) c' ∧ Aside (wr.ownsRow wc.heap.size 9 1 (.slice ad' (L.length - 1 - n) c') (L.length - 1 - n) (strs (ups L K n))) ∧ Aside (Below wc.heap.size wc wr ∧ wc.heap.size ≤ wr.heap.size))
        case atStart => exact ⟨L.length - 1, none, 0, by omega, by omega, by omega, by congr 1; omega, by simp, by have h := World.ownsRow_nil wc wc.heap.size 9 1; rw [ups_end, show L.length - 1 - (L.length - 1) = 0 by omega]; exact h, Below.refl _ _, Nat.le_refl _⟩
        case round =>
          obtain ⟨n, ad', c', hn1, hn2, hgg, rfl, rfl, HO, HB⟩ := hrel
          by_cases hge : lo ≤ n
          · have hgez : max (s : Int) 1 ≤ (n : Int) := by omega
            have hgez2 : (lo : Int) ≤ (n : Int) := by omega
            have hnL : (n : Int) ≤ (L.length : Int) := by omega
            have hw8 : ∀ x ∈ L.take n, x.length ≤ 8 := fun x hx => (word_up (HGA.out.word x (List.mem_of_mem_take hx))).2.1
            have HW8 := Lib.hid hw8
            clear hw8
            go_wp2_with (first
              | (go_at_call 40; refine (realm_any _ _ n _ (L.take n) K ((HA.out.below HB.out.1).take (by omega)) HGA.out.kind (by omega) HW8.out).mono ?_; rintro e w6 ⟨rfl, hb6⟩)
              | (at_builtin; refine wpList_append_text _ rfl (.tmp 64) (.tmp 70) rfl wc.heap.size ad' (L.length - 1 - n) c' (ups L K n) rfl ((own_below HO.out hb6).alloc _) w6.heap.size (realmOf (L.take n) K) rfl (heap_alloc_new _ _) (by omega) (by have := hb6.size; have := HB.out.2; simp; omega) ?_; intro g6 cap6 w7 hown7 hb7))
            have hown8 : w7.ownsRow wc.heap.size 9 1 (.slice (some ⟨g6, 0, none⟩) (L.length - 1 - (n - 1)) cap6) (L.length - 1 - (n - 1)) (strs (ups L K (n - 1))) := by
              rw [ups_next L K (n - 1) (by omega), show n - 1 + 1 = n by omega, show L.length - 1 - (n - 1) = L.length - 1 - n + 1 by omega]
              exact hown7
            have hb8 : Below wc.heap.size wc w7 := (HB.out.1.trans (hb6.mono HB.out.2)).trans ((((Below.refl wc.heap.size w6).alloc (by have := hb6.size; have := HB.out.2; omega) _)).trans hb7)
            have H8 := Lib.hid hown8
            have HB8 := Lib.hid hb8
            have hcount : L.length - 1 - n + 1 = L.length - 1 - (n - 1) := by omega
            rw [hcount]
            clear hown7 hb7 hown8 hb8
            go_wp2
            go_roundg (n - 1)
            case measure => omega
            case rel => exact ⟨n - 1, some ⟨g6, 0, none⟩, cap6, by omega, by omega, by omega, by first | rfl | go_num | (congr 1; omega), rfl, H8.out, HB8.out, HB8.out.size⟩
          · have hgez : ¬ max (s : Int) 1 ≤ (n : Int) := by omega
            have hgez2 : ¬ (lo : Int) ≤ (n : Int) := by omega
            have hn : n = lo - 1 := by omega
            subst hn
            obtain ⟨O, hO⟩ : ∃ O, O = ups L K (lo - 1) := ⟨_, rfl⟩
            have hOl : L.length - 1 - (lo - 1) = O.length := by rw [hO, ups_length]
            rw [hOl] at HO ⊢
            rw [← hO] at HO HR
            have hOb : O.length ≤ 4 := by omega
            clear hO hOl
            go_wp2_with fail
            go_loopg [10, 12] M.length (fun gg s10 s12 wr => ∃ (i : Nat) (ad' : Option Addr) (c' : Nat), lo + i ≤ M.length ∧ M.length - (lo + i) ≤ gg ∧ s12 = .int .i64 ((lo + i : Nat) : Int) ∧ s10 = .slice ad' (dn O M J lo i).length c' ∧ Aside (wr.ownsRow wc.heap.size 9 1 (.slice ad' (dn O M J lo i).length c') (dn O M J lo i).length (strs (dn O M J lo i))) ∧ Aside (Below wc.heap.size wc wr ∧ wc.heap.size ≤ wr.heap.size))
            case atStart => exact ⟨0, ad', c', by omega, by omega, rfl, rfl, HO, HB.out⟩
            case round =>
              obtain ⟨i, ad2', c2', hi, hgg, rfl, rfl, HO2, HB2⟩ := hrel
              have hdl := dn_length O M J lo i
              obtain ⟨D, hD⟩ : ∃ D, D = dn O M J lo i := ⟨_, rfl⟩
              rw [← hD] at HO2 hdl ⊢
              have HD := Lib.hid hD
              clear hD
              by_cases hlt : lo + i < M.length
              · have hltz : ((lo + i : Nat) : Int) < (M.length : Int) := by omega
                have hltz2 : ((lo : Int) + (i : Int)) < (M.length : Int) := by omega
                have hcast : ((lo + i : Nat) : Int) = (lo : Int) + (i : Int) := by omega
                have hleM : (lo : Int) + (i : Int) ≤ (M.length : Int) := by omega
                have h0M : (0 : Int) ≤ (lo : Int) + (i : Int) := by omega
                have hw8 : ∀ x ∈ M.take (lo + i), x.length ≤ 8 := fun x hx => (word_up (HGB.out.word x (List.mem_of_mem_take hx))).2.1
                have HW8 := Lib.hid hw8
                clear hw8
                obtain ⟨y, hy⟩ : ∃ y, y = realmOf (M.take (lo + i)) J := ⟨_, rfl⟩
                have HY := Lib.hid hy
                have hRL := (realm_any wr _ (lo + i) c2 (M.take (lo + i)) J ((HA2.out.below HB2.out.1).take (by omega)) HGB.out.kind (by omega) HW8.out)
                rw [← hy] at hRL
                clear hy
                obtain ⟨lm, hlm⟩ : ∃ lm, lm = lo + i := ⟨_, rfl⟩
                rw [← hlm] at hRL hltz hcast hlt ⊢
                have hlmM : lm ≤ M.length := by omega
                have HLM := Lib.hid hlm
                clear hlm hcast hltz2 hleM h0M
                by_cases hin : y ∈ D
                · have hind : decide (y ∈ D) = true := by simpa using hin
                  go_wp2_with (first
                    | (go_at_call 40; refine hRL.mono ?_; rintro e w6 ⟨rfl, hb6⟩)
                    | (go_at_call 25; refine (contains_any _ _ _ _ D _ (At.owns (own_below HO2.out hb6)) (by omega)).mono ?_; rintro e w7 ⟨rfl, rfl⟩))
                  have hd : dn O M J lo (i + 1) = D := by rw [dn, ← HY.out, ← HD.out, if_pos hin]
                  have H8 := Lib.hid (own_below HO2.out hb6)
                  have hb8 : Below wc.heap.size wc w7 := HB2.out.1.trans (hb6.mono HB2.out.2)
                  have HB8 := Lib.hid hb8
                  have HDD := Lib.hid hd
                  clear hb8 hb6 hd
                  go_roundg (M.length - (lm + 1))
                  case measure => have := HLM.out; omega
                  case rel =>
                    have := HLM.out
                    refine ⟨i + 1, ad2', c2', by omega, by omega, by first | (congr 1; omega) | (rw [this]; congr 1; omega), ?_, ?_, HB8.out, HB8.out.size⟩
                    · rw [HDD.out]
                    · rw [HDD.out]; exact H8.out
                · have hind : decide (y ∈ D) = false := by simpa using hin
                  go_wp2_with (first
                    | (go_at_call 40; refine hRL.mono ?_; rintro e w6 ⟨rfl, hb6⟩)
                    | (go_at_call 25; refine (contains_any _ _ _ _ D _ (At.owns (own_below HO2.out hb6)) (by omega)).mono ?_; rintro e w7 ⟨rfl, rfl⟩)
                    | (at_builtin; refine wpList_append_text _ rfl (.tmp 89) (.tmp 91) rfl wc.heap.size ad2' D.length c2' D rfl ((own_below HO2.out hb6).alloc _) w7.heap.size y rfl (heap_alloc_new _ _) (by omega) (by have := hb6.size; have := HB2.out.2; simp; omega) ?_; intro g6 cap6 w8 hown7 hb7))
                  have hd : dn O M J lo (i + 1) = D ++ [y] := by rw [dn, ← HY.out, ← HD.out, if_neg hin]
                  have hb8 : Below wc.heap.size wc w8 := (HB2.out.1.trans (hb6.mono HB2.out.2)).trans ((((Below.refl wc.heap.size w7).alloc (by have := hb6.size; have := HB2.out.2; omega) _)).trans hb7)
                  have H8 := Lib.hid hown7
                  have HB8 := Lib.hid hb8
                  have HDD := Lib.hid hd
                  clear hb8 hb6 hb7 hd hown7
                  go_roundg (M.length - (lm + 1))
                  case measure => have := HLM.out; omega
                  case rel =>
                    have := HLM.out
                    refine ⟨i + 1, some ⟨g6, 0, none⟩, cap6, by omega, by omega, by first | (congr 1; omega) | (rw [this]; congr 1; omega), ?_, ?_, HB8.out, HB8.out.size⟩
                    · rw [HDD.out]; simp
                    · rw [HDD.out, show (D ++ [y]).length = D.length + 1 by simp]; exact H8.out
              · have hltz : ¬ ((lo + i : Nat) : Int) < (M.length : Int) := by omega
                have hltz2 : ¬ ((lo : Int) + (i : Int)) < (M.length : Int) := by omega
                have hi' : i = M.length - lo := by omega
                have hR : R = others a.data.toList b.data.toList D := by rw [HR.out, HD.out, hi']
                have HRR := Lib.hid hR
                obtain ⟨k0, k1⟩ := KP.out wr (HB5.out.trans (HB2.out.1.mono HB5.out.size))
                have hhh := HH.out
                have hs5 := HB5.out.size
                have hdel := del_any wr wc.heap.size ad2' D.length c2' D w.heap.size (w.heap.size + 1) a.data.toList b.data.toList HO2.out k0 k1 (by omega) (by omega) HB2.out.2
                rw [← hR] at hdel
                clear hR hi' k0 k1 hhh hs5
                go_wp2_with (go_at_call 41; refine hdel.mono ?_; rintro e w9 ⟨rfl, ho9, hb9⟩)
                have hWw : w.heap.size ≤ wc.heap.size := by have := HH.out; have := HB5.out.size; omega
                go_ret
                refine ⟨ad2', c2', rfl, Joins.ownsRow_le ho9 hWw, ?_⟩
                exact H0.out.trans ((HB5.out.mono H0.out.size).trans ((HB2.out.1.mono hWw).trans (hb9.mono hWw)))
end Go.Proofs.YtcleonpckgfdhaaGreatDoor
