/-
  legatelaw6.large, once.
-/
import Derived.Test.YtjbdegcmolimoaaDoorTrKnown
set_option linter.unusedVariables false
set_option linter.unusedSimpArgs false
namespace Go.Proofs.YtjbdegcmolimoaaDoor
open Go Go.RowKit Go.Lib Go.Shelf

def bulk (l : List Str) : Nat := (l.map fun x => 1 + x.length).sum
theorem bulk_step {l : List Str} {i : Nat} (h : i < l.length) : bulk (l.take (i + 1)) = bulk (l.take i) + 1 + l[i]!.length := by
  rw [← List.take_append_getElem h, getElem!_pos l i h]
  unfold bulk
  rw [List.map_append, List.sum_append, List.map_cons, List.map_nil, List.sum_cons, List.sum_nil]
  omega
theorem bulk_le (l : List Str) (i : Nat) : bulk (l.take i) ≤ bulk l := by
  conv => rhs; rw [← List.take_append_drop i l]
  unfold bulk
  rw [List.map_append, List.sum_append]
  omega
theorem bulk_mem {l : List Str} {x : Str} (h : x ∈ l) : x.length < bulk l := by
  induction l with
  | nil => simp at h
  | cons y t ih =>
    simp only [bulk, List.map_cons, List.sum_cons]
    rw [List.mem_cons] at h
    rcases h with rfl | h
    · omega
    · have := ih h
      unfold bulk at this
      omega
theorem bulk_len (l : List Str) : l.length ≤ bulk l := by
  induction l with
  | nil => simp
  | cons y t ih => simp only [bulk, List.map_cons, List.sum_cons, List.length_cons]; unfold bulk at ih; omega

set_option maxHeartbeats 1000000 in
theorem large_any (w : World) (ad : Option Addr) (n c : Nat) (l : List Str) (hA : At w ad n l) (hb : bulk l ≤ 4000000000000000000) :
    Calls Tryd.prog 13 #[.slice ad n c] w fun e w' => e = .returned (.bool (decide (600 < bulk l))) ∧ w' = w := by
  have HA := Lib.hid hA
  have HL := Lib.hid hA.len
  have HB := Lib.hid hb
  have hn : n ≤ 4000000000000000000 := by have := bulk_len l; have := hA.len; omega
  obtain ⟨R, hR⟩ : ∃ R, R = decide (600 < bulk l) := ⟨_, rfl⟩
  rw [← hR]
  have HRR := Lib.hid hR
  clear hA hb hR
  go_enter Tryd.func13, Tryd.ntmps13
  go_wp2
  go_loopg [3, 4] n (fun gg s3 s4 wr => ∃ (i m : Nat), i ≤ n ∧ n - i ≤ gg ∧ s4 = .int .i64 i ∧ s3 = .int .i64 m ∧ Aside (m = bulk (l.take i)) ∧ Aside (wr = w))
  case atStart => exact ⟨0, 0, by omega, by omega, rfl, rfl, rfl, rfl⟩
  case round =>
    obtain ⟨i, m, hi, hgg, rfl, rfl, HM, HQ⟩ := hrel
    have hq := HQ.out
    subst hq
    clear HQ
    have hle := bulk_le l i
    rw [← HM.out] at hle
    have hbl := HB.out
    by_cases hlt : i < n
    · have hltz : (i : Int) < (n : Int) := by omega
      obtain ⟨b, off, hbk, hbb, hc⟩ := HA.out.cell (by omega)
      obtain ⟨x, hxx⟩ : ∃ x : ByteArray, x = ⟨l[i]!.toArray⟩ := ⟨_, rfl⟩
      have hxd : x.data.toList.length = l[i]!.length := by rw [hxx]
      have kx := hc i hlt
      rw [← hxx] at kx
      have hst := bulk_step (l := l) (i := i) (by rw [HL.out]; omega)
      have hst2 := bulk_le l (i + 1)
      have e : x.data.toList.length = x.size := rfl
      have hm2 : m + 1 + x.size = bulk (l.take (i + 1)) := by have := HM.out; omega
      have hmz : (m : Int) + 1 + (x.size : Int) ≤ 9223372036854775807 := by omega
      have hmz1 : (m : Int) + 1 ≤ 9223372036854775807 := by omega
      have HM2 := Lib.hid hm2
      subst hbk
      clear hc hxx hxd hst hst2 e hm2 hle hbl
      go_wp2
      go_roundg (n - (i + 1))
      case measure => omega
      case rel => exact ⟨i + 1, m + 1 + x.size, by omega, by omega, by go_num, by go_num, HM2.out, rfl⟩
    · have hin : i = n := by omega
      subst hin
      have hm : m = bulk l := by rw [HM.out, ← HL.out, List.take_length]
      clear HM
      by_cases h6 : 600 < m
      · have h6z : (600 : Int) < (m : Int) := by omega
        have hd : R = true := by rw [HRR.out, ← hm]; exact decide_eq_true h6
        subst hd
        clear hle hbl hm h6
        go_wp2
        go_ret
        exact ⟨rfl, rfl⟩
      · have h6z : ¬ (600 : Int) < (m : Int) := by omega
        have hd : R = false := by rw [HRR.out, ← hm]; exact decide_eq_false h6
        subst hd
        clear hle hbl hm h6
        go_wp2
        go_ret
        exact ⟨rfl, rfl⟩

def OncePost (w w' : World) (l : List Str) (e : Ending) : Prop := ∃ ad c, e = .returned (.tuple #[.slice ad (onceOf l).1.length c, .bool (onceOf l).2]) ∧ w'.ownsRow w.heap.size 9 1 (.slice ad (onceOf l).1.length c) (onceOf l).1.length (strs (onceOf l).1) ∧ Below w.heap.size w w'

set_option maxHeartbeats 4000000 in
theorem once_any (w : World) (ad : Option Addr) (n c : Nat) (l : List Str) (hA : At w ad n l) (hn : n ≤ 2000000) (hsz : ∀ x ∈ l, x.length < 1100000) :
    Calls Tryd.prog 16 #[.slice ad n c] w fun e w' => OncePost w w' l e := by
  have HA := Lib.hid hA
  have HL := Lib.hid hA.len
  have HSZ := Lib.hid hsz
  clear hA hsz
  go_enter Tryd.func16, Tryd.ntmps16
  go_wp2
  go_loopg [4, 5] n (fun gg s4 s5 wr => ∃ (i : Nat) (U : List Str) (ad' : Option Addr) (c' : Nat), i ≤ n ∧ n - i ≤ gg ∧ U.length ≤ i ∧ s5 = .int .i64 i ∧ s4 = .slice ad' U.length c' ∧ Aside (U = addsOf [] (l.take i)) ∧ Aside (∀ j, j < i → isR l[j]! = true) ∧ Aside (wr.ownsRow w.heap.size 9 1 (.slice ad' U.length c') U.length (strs U)) ∧ Aside (Below w.heap.size w wr))
  case atStart => exact ⟨0, [], none, 0, by omega, by omega, by simp, rfl, rfl, rfl, fun j hj => absurd hj (Nat.not_lt_zero _), World.ownsRow_nil _ _ _ _, Below.refl _ _⟩
  case round =>
    obtain ⟨i, U, ad', c', hi, hgg, hUi, rfl, rfl, HU, HR, HO, HB⟩ := hrel
    have ho := HO.out
    have acc := HB.out
    by_cases hlt : i < n
    · have hltz : (i : Int) < (n : Int) := by omega
      obtain ⟨b, off, hbk, hbb, hc⟩ := HA.out.cell (by omega)
      obtain ⟨x, hxx⟩ : ∃ x : ByteArray, x = ⟨l[i]!.toArray⟩ := ⟨_, rfl⟩
      have hxd : x.data.toList = l[i]! := by rw [hxx]
      have kx0 := hc i hlt
      rw [← hxx] at kx0
      have hmem : l[i]! ∈ l := by rw [getElem!_pos l i (by rw [HL.out]; omega)]; exact List.getElem_mem _
      have sx : x.size < 1100000 := by have e : x.data.toList.length = x.size := rfl; have := HSZ.out _ hmem; rw [hxd] at e; omega
      have HX := Lib.hid hxd
      have HME := Lib.hid hmem
      subst hbk
      have KX := Lib.hid kx0
      have kx := (acc.cell (p := ⟨b, off + i, none⟩) hbb).trans KX.out
      clear hc hxx hxd hmem kx0
      cases hr : isR x.data.toList with
      | false =>
        have hon : onceOf l = ([], false) := by
          unfold onceOf
          rw [if_pos]
          rw [List.any_eq_true]
          exact ⟨_, HME.out, by rw [← HX.out, hr]; rfl⟩
        have HON := Lib.hid hon
        clear hon ho
        go_wp2_with (go_at_call 14; refine (refis_big _ _ (by assumption)).mono ?_; rintro e w2 ⟨rfl, hb⟩; rw [hr]; replace acc := acc.trans (hb.mono acc.size); clear hb)
        go_ret2
        exact ⟨none, 0, by rw [HON.out]; rfl, by rw [HON.out]; exact World.ownsRow_nil _ _ _ _, acc⟩
      | true =>
        have HRX := Lib.hid hr
        go_wp2_with (go_at_call 14; refine (refis_big _ _ (by assumption)).mono ?_; rintro e w2 ⟨rfl, hb⟩; rw [hr]; replace acc := acc.trans (hb.mono acc.size); replace ho := own_below ho hb; clear hb)
        have ACC := Lib.hid acc
        have HO2 := Lib.hid ho
        clear acc ho kx hr HO HB
        go_loopg [6, 7] U.length (fun gg s6 s7 wr2 => ∃ (k : Nat) (fd : Bool), k ≤ U.length ∧ U.length - k ≤ gg ∧ s7 = .int .i64 k ∧ s6 = .bool fd ∧ Aside (fd = decide (x.data.toList ∈ U.take k)) ∧ Aside (∃ q, wr2 = w2.drewN q))
        case atStart => exact ⟨0, false, by omega, by omega, rfl, rfl, (show false = decide (x.data.toList ∈ U.take 0) by simp), 0, rfl⟩
        case round =>
          obtain ⟨k, fd, hk, hgg2, rfl, rfl, HFD, HQ⟩ := hrel
          have hcw : ∀ p, wr.cell? p = w2.cell? p := fun p => by obtain ⟨q, hq⟩ := HQ.out; rw [hq, World.cell?_drewN]
          have HCW := Lib.hid hcw
          have kx := (HCW.out _).trans ((ACC.out.cell (p := ⟨b, off + i, none⟩) hbb).trans KX.out)
          clear hcw
          by_cases hkl : k < U.length
          · have hklz : (k : Int) < (U.length : Int) := by omega
            obtain ⟨b2, off2, hb2, hbb2, hc2⟩ := (At.owns HO2.out).cell (by omega)
            obtain ⟨y, hyy⟩ : ∃ y : ByteArray, y = ⟨U[k]!.toArray⟩ := ⟨_, rfl⟩
            have hyd : y.data.toList = U[k]! := by rw [hyy]
            have ky := (HCW.out _).trans (hc2 k hkl)
            rw [← hyy] at ky
            have hnx : decide (x.data.toList ∈ U.take (k + 1)) = (fd || decide (y.data.toList = x.data.toList)) := by
              rw [← List.take_append_getElem hkl, HFD.out, hyd, getElem!_pos U k hkl, Bool.eq_iff_iff]
              simp only [List.mem_append, List.mem_singleton, Bool.or_eq_true, decide_eq_true_eq]
              exact ⟨fun h => h.imp id Eq.symm, fun h => h.imp id Eq.symm⟩
            have HNX := Lib.hid hnx
            have hq := eq_text y x
            subst hb2
            clear hc2 hyy hyd hnx HFD
            cases fd with
            | true =>
              clear hq
              go_wp2
              go_quiet (fail)
              go_wp2
              go_roundg (U.length - (k + 1))
              case measure => omega
              case rel =>
                obtain ⟨q, hq⟩ := HQ.out
                exact ⟨k + 1, true, by omega, by omega, by go_num, rfl, by rw [HNX.out]; rfl, q + nq, by rw [hq, World.drewN_drewN]⟩
            | false =>
              by_cases hyx : y.data.toList = x.data.toList
              · rw [decide_eq_true hyx] at hq HNX
                clear hyx
                go_wp2
                go_quiet (fail)
                go_wp2
                go_roundg (U.length - (k + 1))
                case measure => omega
                case rel =>
                  obtain ⟨q, hq⟩ := HQ.out
                  exact ⟨k + 1, true, by omega, by omega, by go_num, rfl, by rw [HNX.out]; rfl, q + nq, by rw [hq, World.drewN_drewN]⟩
              · rw [decide_eq_false hyx] at hq HNX
                clear hyx
                go_wp2
                go_quiet (fail)
                go_wp2
                go_roundg (U.length - (k + 1))
                case measure => omega
                case rel =>
                  obtain ⟨q, hq⟩ := HQ.out
                  exact ⟨k + 1, false, by omega, by omega, by go_num, rfl, by rw [HNX.out]; rfl, q + nq, by rw [hq, World.drewN_drewN]⟩
          · have hku : k = U.length := by omega
            subst hku
            have hfd := HFD.out
            rw [List.take_length] at hfd
            have hnext : addsOf [] (l.take (i + 1)) = addOf U x.data.toList := by rw [HX.out, HU.out]; exact addsOf_next (by rw [HL.out]; omega)
            have HN := Lib.hid hnext
            have hbel : Below w2.heap.size w2 wr := by obtain ⟨q, hq⟩ := HQ.out; rw [hq]; exact below_drewN (Below.refl _ _) _
            have accx := Lib.hid (ACC.out.trans (hbel.mono ACC.out.size))
            have hox := own_below HO2.out hbel
            clear hnext HFD hbel
            cases fd with
            | true =>
              have hin : x.data.toList ∈ U := of_decide_eq_true hfd.symm
              have hold := Lib.hid (addOf_old hin)
              have HOX := Lib.hid hox
              clear hfd hin hox
              go_wp2
              go_roundg (n - (i + 1))
              case measure => omega
              case rel =>
                refine ⟨i + 1, U, ad', c', by omega, by omega, by omega, by go_num, rfl, by rw [HN.out, hold.out]; exact rfl, fun j hj => ?_, HOX.out, accx.out⟩
                by_cases e : j = i
                · subst e; rw [← HX.out]; exact HRX.out
                · exact HR.out j (by omega)
            | false =>
              have hin : ¬ x.data.toList ∈ U := of_decide_eq_false hfd.symm
              have hnew := Lib.hid (addOf_new hin)
              have hgs : w.heap.size ≤ wr.heap.size := accx.out.size
              clear hfd hin
              go_wp2_with (at_builtin; refine wpList_append_text _ rfl (.tmp 40) (.tmp 45) rfl w.heap.size ad' U.length c' U rfl (hox.alloc _) wr.heap.size x.data.toList rfl (heap_alloc_new _ _) (by omega) (Nat.le_trans hgs (by simp)) ?_; intro g7 cap7 w7 hown7 hb7)
              go_roundg (n - (i + 1))
              case measure => omega
              case rel =>
                have hU1 : (U ++ [x.data.toList]).length = U.length + 1 := by simp
                refine ⟨i + 1, U ++ [x.data.toList], some ⟨g7, 0, none⟩, cap7, by omega, by omega, by omega, by go_num, by rw [hU1], by rw [HN.out, hnew.out]; exact rfl, fun j hj => ?_, by rw [hU1]; exact hown7, (accx.out.alloc hgs _).trans hb7⟩
                by_cases e : j = i
                · subst e; rw [← HX.out]; exact HRX.out
                · exact HR.out j (by omega)
    · have hin : i = n := by omega
      subst hin
      have hon : onceOf l = (U, decide (U.length ≤ 8)) := by
        have htake : l.take i = l := by rw [← HL.out, List.take_length]
        unfold onceOf
        rw [if_neg, HU.out, htake]
        rw [Bool.not_eq_true, List.any_eq_false]
        intro y hy
        obtain ⟨j, hj, rfl⟩ := List.getElem_of_mem hy
        have := HR.out j (by rw [← HL.out]; exact hj)
        rw [getElem!_pos l j hj] at this
        simp [this]
      have HON := Lib.hid hon
      clear hon ho acc HU
      by_cases h8 : U.length ≤ 8
      · have h8z : (U.length : Int) ≤ 8 := by omega
        have hd := Lib.hid (decide_eq_true h8)
        clear h8
        go_wp2
        go_ret2
        exact ⟨ad', c', by rw [HON.out, hd.out]; rfl, by rw [HON.out]; exact HO.out, HB.out⟩
      · have h8z : ¬ (U.length : Int) ≤ 8 := by omega
        have hd := Lib.hid (decide_eq_false h8)
        clear h8
        go_wp2
        go_ret2
        exact ⟨ad', c', by rw [HON.out, hd.out]; rfl, by rw [HON.out]; exact HO.out, HB.out⟩
end Go.Proofs.YtjbdegcmolimoaaDoor
