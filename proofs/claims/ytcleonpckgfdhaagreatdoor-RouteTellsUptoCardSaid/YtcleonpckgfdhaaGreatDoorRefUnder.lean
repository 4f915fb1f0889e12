/-
  legateref5.Under.
-/
import Derived.Test.YtcleonpckgfdhaaGreatDoorRefUp
set_option linter.unusedVariables false
set_option linter.unusedSimpArgs false
namespace Go.Proofs.YtcleonpckgfdhaaGreatDoor
open Go Go.RowKit Go.Lib Go.Shelf

theorem isR_none {a : Str} (h : isR a = false) : kindOf a = 0 := by
  unfold isR at h
  simpa using h
theorem isR_of {a : Str} (h : isR a = true) : kindOf a ≠ 0 := by
  intro e
  unfold isR at h
  rw [e] at h
  cases h

theorem eq_text (r b : ByteArray) : (r.toList == b.toList) = decide (r.data.toList = b.data.toList) := by
  rw [toList_data, toList_data, Bool.eq_iff_iff]
  simp

set_option maxHeartbeats 2000000 in
theorem refunder_any (w : World) (a b : ByteArray) (sa : a.size < 90000) (sb : b.size < 90000) :
    Calls Tryz.prog 43 #[.string a, .string b] w fun e w' => e = .returned (.bool (underOf a.data.toList b.data.toList)) ∧ Below w.heap.size w w' := by
  have acc : Below w.heap.size w w := Below.refl _ _
  obtain ⟨R, hR⟩ : ∃ R, R = underOf a.data.toList b.data.toList := ⟨_, rfl⟩
  rw [← hR]
  cases hx : isR a.data.toList with
  | false =>
    have hf : R = false := by rw [hR]; simp [underOf, isR_none hx]
    subst hf
    clear hR
    go_enter Tryz.func43, Tryz.ntmps43
    go_wp2_with (go_at_call 32; refine (refis_any _ _ (by assumption)).mono ?_; rintro e w2 ⟨rfl, hb⟩; replace acc := acc.trans (hb.mono acc.size); clear hb)
    go_ret
    exact ⟨rfl, acc⟩
  | true =>
    cases hy : isR b.data.toList with
    | false =>
      have hf : R = false := by
        rw [hR]
        have h0 := isR_none hy
        have h1 := isR_of hx
        simp only [underOf, h0]
        simp [h1]
      subst hf
      clear hR
      go_enter Tryz.func43, Tryz.ntmps43
      go_wp2_with (go_at_call 32; refine (refis_any _ _ (by assumption)).mono ?_; rintro e w2 ⟨rfl, hb⟩; replace acc := acc.trans (hb.mono acc.size); clear hb)
      go_ret
      exact ⟨rfl, acc⟩
    | true =>
      obtain ⟨hG, he, _⟩ := good_of_kind (isR_of hx)
      obtain ⟨hGb, heb, _⟩ := good_of_kind (isR_of hy)
      have hno : (∀ j, 0 < j → j < (labelsOf a.data.toList).1.length → realmOf ((labelsOf a.data.toList).1.take j) (kindOf a.data.toList) ≠ b.data.toList) → R = false := by
        intro h
        rw [hR]
        cases hu : underOf a.data.toList b.data.toList
        · rfl
        · exfalso
          obtain ⟨_, h2, h3, h4⟩ := (under_iff _ _).1 hu
          refine h _ (List.length_pos_iff.2 hGb.ne) h3 ?_
          rw [h4, h2]
          exact heb
      generalize (labelsOf a.data.toList).1 = L at *
      generalize kindOf a.data.toList = K at *
      have hL1 : 1 ≤ L.length := List.length_pos_iff.2 hG.ne
      have hu : upOf a.data.toList = realmOf (L.take (L.length - 1)) K := by
        rw [← he, ← anc_all L K]
        exact up_anc hG hL1 (Nat.le_refl _)
      have hstep : ∀ (j : Nat) (r : ByteArray), 1 ≤ j → j < L.length → r.data.toList = realmOf (L.take j) K → r.toList.isEmpty = false ∧ r.size < 90000 ∧ upOf r.data.toList = realmOf (L.take (j - 1)) K ∧ (r.data.toList = b.data.toList → R = true) := by
        intro j r hj1 hj2 hr
        have h2 := under_anc hG hj1 hj2
        have h3 := len_anc hG hj1 hj2
        have h4 := up_anc hG hj1 (by omega)
        have h5 := realm_ne (hG.take (j := j) (by omega))
        have e1 : r.data.toList.length = r.size := rfl
        have e2 : a.data.toList.length = a.size := rfl
        rw [toList_data, hr]
        rw [he] at h2 h3
        rw [hr] at e1
        refine ⟨by simpa using h5, by omega, h4, fun e => ?_⟩
        rw [hR, ← e]
        exact h2
      have HST := Lib.hid hstep
      have HNO := Lib.hid hno
      clear hG he hGb heb hno hstep hR
      go_enter Tryz.func43, Tryz.ntmps43
      go_wp2_with (first
        | (go_at_call 32; refine (refis_any _ _ (by assumption)).mono ?_; rintro e w2 ⟨rfl, hb⟩; replace acc := acc.trans (hb.mono acc.size); clear hb)
        | (go_at_call 44; refine (refup_any _ _ (by assumption)).mono ?_; rintro e w2 ⟨rfl, hb⟩; replace acc := acc.trans (hb.mono acc.size); clear hb; rw [hu]))
      go_loopg [5] L.length (fun gg s5 wr => ∃ (j : Nat) (r : ByteArray), j < L.length ∧ j ≤ gg ∧ s5 = .string r ∧ Aside (r.data.toList = realmOf (L.take j) K) ∧ Aside (∀ i, j < i → i < L.length → realmOf (L.take i) K ≠ b.data.toList) ∧ Aside (Below w.heap.size w wr))
      case atStart => exact ⟨L.length - 1, _, by omega, by omega, rfl, rfl, fun i h1 h2 => by omega, acc⟩
      case round =>
        obtain ⟨j, r, hj, hgg, rfl, HR, HN, HB⟩ := hrel
        replace acc := HB.out
        by_cases hj0 : 1 ≤ j
        · obtain ⟨k1, k2, k3, k4⟩ := HST.out j r hj0 hj HR.out
          have hq := eq_text r b
          by_cases hrb : r.data.toList = b.data.toList
          · have hRt : R = true := k4 hrb
            subst hRt
            rw [decide_eq_true hrb] at hq
            clear k4 hrb
            go_wp2
            go_ret
            exact ⟨rfl, acc⟩
          · rw [decide_eq_false hrb] at hq
            have HRB := Lib.hid hrb
            clear k4 hrb
            go_wp2_with (go_at_call 44; refine (refup_any _ _ (by assumption)).mono ?_; rintro e w2 ⟨rfl, hb⟩; replace acc := acc.trans (hb.mono acc.size); clear hb; rw [k3])
            go_roundg (j - 1)
            case measure => omega
            case rel =>
              refine ⟨j - 1, _, by omega, by omega, rfl, rfl, fun i h1 h2 => ?_, acc⟩
              by_cases e : i = j
              · subst e; rw [← HR.out]; exact HRB.out
              · exact HN.out i (by omega) h2
        · have hj' : j = 0 := by omega
          subst hj'
          have hr0 : r.toList = [] := by
            rw [toList_data, HR.out]
            rfl
          have hRf : R = false := HNO.out (fun i h1 h2 => HN.out i h1 h2)
          subst hRf
          go_wp2
          go_ret
          exact ⟨rfl, acc⟩
end Go.Proofs.YtcleonpckgfdhaaGreatDoor
