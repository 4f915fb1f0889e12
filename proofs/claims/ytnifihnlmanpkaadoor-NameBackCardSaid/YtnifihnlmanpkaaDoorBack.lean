/-
  NameBack: the walk of the law.
-/
import Derived.Test.YtnifihnlmanpkaaDoorUnders
import Derived.Test.YtnifihnlmanpkaaDoorPath2
set_option linter.unusedVariables false
set_option linter.unusedSimpArgs false
namespace Go.Proofs.YtnifihnlmanpkaaDoor
open Go Go.RowKit Go.Lib Go.Shelf

theorem nameBack_not (w : World) (a b : ByteArray) (ha : a.size ≤ 140737488351232) (hb : b.size ≤ 140737488351232) (hl : 200 < a.size + b.size ∨ isR a.data.toList = false ∨ isR b.data.toList = false) :
    Calls Tryd.prog 3 #[.string a, .string b] w fun e w' => e = .returned (.bool true) ∧ Below w.heap.size w w' := by
  have acc : Below w.heap.size w w := Below.refl _ _
  by_cases h : 200 < a.size + b.size
  · have h1 : (200 : Int) < (a.size : Int) + (b.size : Int) := by omega
    clear hl h
    go_enter Tryd.func3, Tryd.ntmps3
    go_wp2
    go_ret
    exact ⟨rfl, acc⟩
  · have h1 : ¬ (200 : Int) < (a.size : Int) + (b.size : Int) := by omega
    have sa : a.size < 90000 := by omega
    have sb : b.size < 90000 := by omega
    cases hx : isR a.data.toList with
    | false =>
      clear hl h
      go_enter Tryd.func3, Tryd.ntmps3
      go_wp2_with (go_at_call 12; refine (refis_any _ _ (by assumption)).mono ?_; rintro e w2 ⟨rfl, hb⟩; replace acc := acc.trans (hb.mono acc.size); clear hb)
      go_ret
      exact ⟨rfl, acc⟩
    | true =>
      have hy : isR b.data.toList = false := by
        rcases hl with hl | hl | hl
        · exact absurd hl h
        · rw [hl] at hx; cases hx
        · exact hl
      clear hl h
      go_enter Tryd.func3, Tryd.ntmps3
      go_wp2_with (go_at_call 12; refine (refis_any _ _ (by assumption)).mono ?_; rintro e w2 ⟨rfl, hb⟩; replace acc := acc.trans (hb.mono acc.size); clear hb)
      go_ret
      exact ⟨rfl, acc⟩

theorem isR_kind {a : Str} (h : isR a = true) : kindOf a ≠ 0 := by
  intro e
  unfold isR at h
  rw [e] at h
  cases h

set_option maxHeartbeats 4000000 in
theorem nameBack_is (w : World) (hg : Glob w) (a b : ByteArray) (hl : ¬ 200 < a.size + b.size) (hx : isR a.data.toList = true) (hy : isR b.data.toList = true) :
    Calls Tryd.prog 3 #[.string a, .string b] w fun e w' => e = .returned (.bool true) ∧ Below w.heap.size w w' := by
  have h1 : ¬ (200 : Int) < (a.size : Int) + (b.size : Int) := by omega
  have sa : a.size < 90000 := by omega
  have sb : b.size < 90000 := by omega
  have hrev := betOf_back (isR_kind hx) (isR_kind hy)
  obtain ⟨R, hR⟩ : ∃ R, R = betOf a.data.toList b.data.toList := ⟨_, rfl⟩
  rw [← hR] at hrev
  have HRV := Lib.hid hrev
  have HRR := Lib.hid hR
  have hR6 : R.length ≤ 6 := by rw [hR]; exact betOf_six _ _
  have HG := Lib.hid hg
  clear hg hl hrev hR
  have acc : Below w.heap.size w w := Below.refl _ _
  have tok : True := trivial
  go_enter Tryd.func3, Tryd.ntmps3
  go_wp2_with (first
    | (go_at_call 12; refine (refis_any _ _ (by assumption)).mono ?_; rintro e w2 ⟨rfl, hb⟩; replace acc := acc.trans (hb.mono acc.size); clear hb)
    | (go_at_call 13; have _t := tok; refine (between_any _ _ _ (HG.out.below acc) (by assumption) (by assumption)).mono ?_; rintro e w3 ⟨ad1, c1, rfl, ho1, hb⟩; rw [← HRR.out] at ho1 ⊢; replace acc := acc.trans (hb.mono acc.size); have HA1 := Lib.hid (At.owns ho1); clear hb ho1 tok)
    | (go_at_call 13; refine (between_any _ _ _ (HG.out.below acc) (by assumption) (by assumption)).mono ?_; rintro e w4 ⟨ad2, c2, rfl, ho2, hb⟩; rw [HRV.out, List.length_reverse] at ho2 ⊢; replace acc := acc.trans (hb.mono acc.size); have HA2 := Lib.hid (At.owns ho2); replace HA1 := Lib.hid (HA1.out.below hb); clear hb ho2))
  go_loopg [7] R.length (fun gg s7 wr => ∃ i : Nat, i ≤ R.length ∧ R.length - i ≤ gg ∧ s7 = .int .i64 i ∧ Aside (∃ q, wr = w4.drewN q))
  case atStart => exact ⟨0, by omega, by omega, rfl, 0, rfl⟩
  case round =>
    obtain ⟨i, hi, hgg, rfl, HQ⟩ := hrel
    by_cases hlt : i < R.length
    · have hltz : (i : Int) < (R.length : Int) := by omega
      obtain ⟨b1, o1, hb1, hbl1, hc1⟩ := HA1.out.cell (by omega)
      obtain ⟨b2, o2, hb2, hbl2, hc2⟩ := HA2.out.cell (by omega)
      obtain ⟨x, hx⟩ : ∃ x : ByteArray, x = ⟨R[i]!.toArray⟩ := ⟨_, rfl⟩
      have hcw : ∀ p, wr.cell? p = w4.cell? p := fun p => by obtain ⟨q, hq⟩ := HQ.out; rw [hq, World.cell?_drewN]
      have k1 := (hcw _).trans (hc1 i hlt)
      have k2 := (hcw _).trans (hc2 (R.length - 1 - i) (by omega))
      have hsub : (R.length : Int) - 1 - (i : Int) = ((R.length - 1 - i : Nat) : Int) := by omega
      have hrx : R.reverse[R.length - 1 - i]! = R[i]! := by
        rw [getElem!_pos R.reverse (R.length - 1 - i) (by simp; omega), getElem!_pos R i hlt, List.getElem_reverse]
        congr 1
        omega
      rw [hrx, ← hx] at k2
      rw [← hx] at k1
      have hle : (R.length : Int) - 1 - (i : Int) < (R.length : Int) := by omega
      have hge : (0 : Int) ≤ (R.length : Int) - 1 - (i : Int) := by omega
      have hle2 : ((R.length - 1 - i : Nat) : Int) < (R.length : Int) := by omega
      subst hb1 hb2
      clear hc1 hc2 hcw hx hrx
      go_wp2
      go_quiet (fail)
      go_wp2
      go_roundg (R.length - (i + 1))
      case measure => omega
      case rel =>
        obtain ⟨q, hq⟩ := HQ.out
        exact ⟨i + 1, by omega, by omega, by go_num, ⟨q + nq, by rw [hq, World.drewN_drewN]⟩⟩
    · have hltz : ¬ (i : Int) < (R.length : Int) := by omega
      have accr : Below w.heap.size w wr := by obtain ⟨q, hq⟩ := HQ.out; rw [hq]; exact below_drewN acc q
      replace acc := accr
      go_wp2_with (go_at_call 14; refine (known_any _ (HG.out.below acc)).mono ?_; rintro e w2 ⟨rfl, hb⟩; replace acc := acc.trans (hb.mono acc.size); clear hb)
      go_ret
      exact ⟨rfl, acc⟩

theorem nameBack_walk (a b : ByteArray) (ha : a.size ≤ 140737488351232) (hb : b.size ≤ 140737488351232) (w : World) (hg : Glob w) :
    Calls Tryd.prog 3 #[.string a, .string b] w fun e w' => e = .returned (.bool true) ∧ Below w.heap.size w w' := by
  by_cases hl : 200 < a.size + b.size
  · exact nameBack_not w a b ha hb (.inl hl)
  · cases hx : isR a.data.toList
    · exact nameBack_not w a b ha hb (.inr (.inl hx))
    · cases hy : isR b.data.toList
      · exact nameBack_not w a b ha hb (.inr (.inr hy))
      · exact nameBack_is w hg a b hl hx hy
end Go.Proofs.YtnifihnlmanpkaaDoor
