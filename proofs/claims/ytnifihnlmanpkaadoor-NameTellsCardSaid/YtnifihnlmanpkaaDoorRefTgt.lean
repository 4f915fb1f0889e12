/-
  legateref5.Target, IsPrinc.
-/
import Derived.Test.YtnifihnlmanpkaaDoorRefUnder
import Derived.Test.YtnifihnlmanpkaaDoorPrincs
set_option linter.unusedVariables false
set_option linter.unusedSimpArgs false
namespace Go.Proofs.YtnifihnlmanpkaaDoor
open Go Go.RowKit Go.Lib Go.Shelf

theorem target_short {s : ByteArray} (h : s.size < 8) : targetOf s.data.toList = ([], false) := by
  unfold targetOf
  rw [if_neg]
  rintro ⟨h1, h2⟩
  have e : s.data.toList.length = s.size := rfl
  have hd : s.data.toList.drop 7 = [] := by
    have h3 : krb.length ≤ s.data.toList.length := (List.isPrefixOf_iff_prefix.1 h1).length_le
    have h4 : krb.length = 7 := rfl
    rw [List.drop_eq_nil_iff]
    omega
  rw [hd] at h2
  exact absurd h2 (by decide)

theorem pre_eq (s : ByteArray) (h : 8 ≤ s.size) : Lib.hasPrefix s.data.toList krb = decide ((s.extract 0 7).data.toList = krb) := by
  have e : s.data.toList.length = s.size := rfl
  rw [← Lib.hasPrefix_of_take, extract_from_zero]
  have h4 : krb.length = 7 := rfl
  rw [h4, decide_eq_true (by omega), Bool.true_and, Bool.eq_iff_iff]
  simp

set_option maxHeartbeats 1000000 in
theorem reftarget_any (w : World) (s : ByteArray) (hs : s.size < 90000) :
    Calls Tryd.prog 25 #[.string s] w fun e w' => e = .returned (.tuple #[.string ⟨(targetOf s.data.toList).1.toArray⟩, .bool (targetOf s.data.toList).2]) ∧ Below w.heap.size w w' := by
  by_cases h8 : s.size < 8
  · have hr := target_short h8
    rw [hr]
    have h8z : (s.size : Int) < 8 := by omega
    clear h8
    go_enter Tryd.func25, Tryd.ntmps25
    go_wp2
    go_ret2
    exact ⟨rfl, Below.refl _ _⟩
  · have h8z : ¬ (s.size : Int) < 8 := by omega
    have h7 : (7 : Int) ≤ (s.size : Int) := by omega
    have hp := pre_eq s (by omega)
    have hx7 : (s.extract 7 s.size).data.toList = s.data.toList.drop 7 := by
      have e : s.data.toList.take s.size = s.data.toList := List.take_of_length_le (Nat.le_refl s.data.toList.length)
      rw [ext_eq, e]
    have hxs : (s.extract 7 s.size).size < 90000 := by rw [ByteArray.size_extract]; omega
    have hxe : (⟨(s.data.toList.drop 7).toArray⟩ : ByteArray) = s.extract 7 s.size := by rw [← hx7]
    obtain ⟨y, hy⟩ : ∃ y : ByteArray, s.extract 0 7 = y := ⟨_, rfl⟩
    cases hpre : Lib.hasPrefix s.data.toList krb
    · have hr : targetOf s.data.toList = ([], false) := by unfold targetOf; rw [if_neg (by rw [hpre]; simp)]
      rw [hr]
      rw [hpre] at hp
      have hne : (s.extract 0 7).toList ≠ krb := by
        intro e
        rw [toList_data] at e
        rw [decide_eq_true e] at hp
        cases hp
      have hne2 : (s.extract 0 7).toList ≠ [107, 114, 98, 116, 103, 116, 47] := hne
      have hneb : ((s.extract 0 7).toList == [107, 114, 98, 116, 103, 116, 47]) = false := by simpa using hne2
      clear hr hx7 hxe hp hy hne hpre
      go_enter Tryd.func25, Tryd.ntmps25
      go_wp2
      go_ret2
      exact ⟨rfl, Below.refl _ _⟩
    · rw [hpre] at hp
      have heq : (s.extract 0 7).toList = [107, 114, 98, 116, 103, 116, 47] := by
        rw [toList_data]
        exact of_decide_eq_true hp.symm
      have hneb : ((s.extract 0 7).toList == [107, 114, 98, 116, 103, 116, 47]) = true := by rw [heq]; rfl
      have hI := refis_any w (s.extract 7 s.size) hxs
      rw [hx7] at hI
      obtain ⟨v, hv⟩ : ∃ v, isR (s.data.toList.drop 7) = v := ⟨_, rfl⟩
      rw [hv] at hI
      have hr : targetOf s.data.toList = if v = true then (s.data.toList.drop 7, true) else ([], false) := by unfold targetOf; rw [hpre, hv]; simp
      rw [hr]
      have HXE := Lib.hid hxe
      clear hr hx7 hxe hp hy hpre hv heq
      cases v
      · go_enter Tryd.func25, Tryd.ntmps25
        go_wp2_with (go_at_call 12; refine hI.mono ?_; rintro e w2 ⟨rfl, hb⟩)
        go_ret2
        exact ⟨rfl, hb⟩
      · go_enter Tryd.func25, Tryd.ntmps25
        go_wp2_with (go_at_call 12; refine hI.mono ?_; rintro e w2 ⟨rfl, hb⟩)
        go_ret2
        refine ⟨?_, hb⟩
        show Ending.returned (.tuple #[.string (s.extract 7 s.size), .bool true]) = _
        rw [← HXE.out]

set_option maxHeartbeats 4000000 in
theorem refprinc_any (w : World) (r n : ByteArray) (sr : r.size < 90000) (sn : n.size < 90000) :
    Calls Tryd.prog 31 #[.agg #[.string r, .string n]] w fun e w' => e = .returned (.bool (princOf r.data.toList n.data.toList)) ∧ Below w.heap.size w w' := by
  have hb0 : Below w.heap.size w (w.alloc (.cells #[.string r, .string n] 35)) := (Below.refl _ _).alloc (Nat.le_refl _) _
  have hh : (w.alloc (.cells #[.string r, .string n] 35)).heap.size = w.heap.size + 1 := by simp
  have e0 : (w.alloc (.cells #[.string r, .string n] 35)).cell? ⟨w.heap.size, 0, none⟩ = some (.string r) := (cell_of_row _ _ _ _ _ _ (heap_alloc_new w _)).trans rfl
  have e1 : (w.alloc (.cells #[.string r, .string n] 35)).cell? ⟨w.heap.size, 1, none⟩ = some (.string n) := (cell_of_row _ _ _ _ _ _ (heap_alloc_new w _)).trans rfl
  generalize hW1 : w.alloc (.cells #[.string r, .string n] 35) = W1 at *
  have keep : ∀ w2, Below W1.heap.size W1 w2 → w2.cell? ⟨w.heap.size, 0, none⟩ = some (.string r) ∧ w2.cell? ⟨w.heap.size, 1, none⟩ = some (.string n) := fun w2 hb => ⟨(hb.cell (p := ⟨w.heap.size, 0, none⟩) (by rw [hh]; exact Nat.lt_succ_self _)).trans e0, (hb.cell (p := ⟨w.heap.size, 1, none⟩) (by rw [hh]; exact Nat.lt_succ_self _)).trans e1⟩
  have KP := Lib.hid keep
  have H0 := Lib.hid hb0
  clear hb0 hh keep
  have acc : Below W1.heap.size W1 W1 := Below.refl _ _
  obtain ⟨R, hR⟩ : ∃ R, R = princOf r.data.toList n.data.toList := ⟨_, rfl⟩
  rw [← hR]
  have HR := Lib.hid hR
  clear hR
  have hnl : n.data.toList.length = n.size := rfl
  cases hx : isR r.data.toList with
  | false =>
    have hf : R = false := by rw [HR.out]; unfold princOf; rw [hx]; rfl
    subst hf
    go_enter Tryd.func31, Tryd.ntmps31
    go_wp2_with (go_at_call 12; refine (refis_any _ _ (by assumption)).mono ?_; rintro e w2 ⟨rfl, hb⟩; replace acc := acc.trans (hb.mono acc.size); clear hb)
    go_ret
    exact ⟨rfl, H0.out.trans (acc.mono H0.out.size)⟩
  | true =>
    obtain ⟨t, ht⟩ : ∃ t : ByteArray, (⟨(targetOf n.data.toList).1.toArray⟩ : ByteArray) = t := ⟨_, rfl⟩
    cases hy : (targetOf n.data.toList).2 with
    | true =>
      have hf : R = true := by rw [HR.out]; unfold princOf; rw [hx, hy]; rfl
      subst hf
      go_enter Tryd.func31, Tryd.ntmps31
      go_wp2_with (first
        | (go_at_call 12; refine (refis_any _ _ (by assumption)).mono ?_; rintro e w2 ⟨rfl, hb⟩; replace acc := acc.trans (hb.mono acc.size); clear hb; obtain ⟨f0, f1⟩ := KP.out _ acc)
        | (go_at_call 25; refine (reftarget_any _ _ (by assumption)).mono ?_; rintro e w3 ⟨rfl, hb⟩; rw [ht, hy]; replace acc := acc.trans (hb.mono acc.size); clear hb))
      go_ret
      exact ⟨rfl, H0.out.trans (acc.mono H0.out.size)⟩
    | false =>
      have hf : R = word smB n.data.toList := by rw [HR.out]; unfold princOf; rw [hx, hy]; simp
      have HF := Lib.hid hf
      clear hf
      go_enter Tryd.func31, Tryd.ntmps31
      go_wp2_with (first
        | (go_at_call 12; refine (refis_any _ _ (by assumption)).mono ?_; rintro e w2 ⟨rfl, hb⟩; replace acc := acc.trans (hb.mono acc.size); clear hb; obtain ⟨f0, f1⟩ := KP.out _ acc)
        | (go_at_call 25; refine (reftarget_any _ _ (by assumption)).mono ?_; rintro e w3 ⟨rfl, hb⟩; rw [ht, hy]; replace acc := acc.trans (hb.mono acc.size); clear hb; obtain ⟨k0, k1⟩ := KP.out _ acc))
      go_loopg [5] n.size (fun gg s5 wr => ∃ i : Nat, i ≤ n.size ∧ n.size - i ≤ gg ∧ s5 = .int .i64 i ∧ Aside (∀ j (hj : j < n.size), j < i → smB (n[j]'hj) = true) ∧ Aside (wr = w3))
      case atStart => exact ⟨0, by omega, by omega, rfl, fun j hj h => absurd h (Nat.not_lt_zero _), rfl⟩
      case round =>
        obtain ⟨i, hi, hgg, rfl, HS, HQ⟩ := hrel
        have hq := HQ.out
        subst hq
        clear HQ
        by_cases hlt : i < n.size
        · have hltz : (i : Int) < (n.size : Int) := by omega
          have hbad : smB (n[i]'hlt) = false → R = false := fun hb => by
            rw [HF.out]
            have : n.data.toList.all smB = false := by
              rw [List.all_eq_false]
              exact ⟨n.data.toList[i]'hlt, List.getElem_mem _, by have e : n.data.toList[i]'hlt = n[i]'hlt := rfl; rw [e, hb]; decide⟩
            simp [word, this]
          obtain ⟨y, hy⟩ : ∃ y : Int, ((n[i]'hlt).toNat : Int) = y := ⟨_, rfl⟩
          have hgood : (97 ≤ y ∧ y ≤ 122) ∨ (48 ≤ y ∧ y ≤ 57) → smB (n[i]'hlt) = true := fun h => sm_byte.2 (by rw [hy]; exact h)
          have hworse : ¬ ((97 ≤ y ∧ y ≤ 122) ∨ (48 ≤ y ∧ y ≤ 57)) → R = false := fun h => hbad (sm_byte_false (by rw [hy]; exact h))
          have HGD := Lib.hid hgood
          have HWS := Lib.hid hworse
          clear hbad hgood hworse
          by_cases q1 : y < (97 : Int)
          · by_cases q3 : y < (48 : Int)
            · have hf := HWS.out (by omega)
              subst hf
              go_wp2
              go_ret
              exact ⟨rfl, H0.out.trans (acc.mono H0.out.size)⟩
            · by_cases q4 : (57 : Int) < y
              · have hf := HWS.out (by omega)
                subst hf
                go_wp2
                go_ret
                exact ⟨rfl, H0.out.trans (acc.mono H0.out.size)⟩
              · have hsm := Lib.hid (HGD.out (by omega))
                go_wp2
                go_roundg (n.size - (i + 1))
                case measure => omega
                case rel =>
                  refine ⟨i + 1, by omega, by omega, by go_num, fun j hj h => ?_, rfl⟩
                  by_cases e : j = i
                  · subst e; exact hsm.out
                  · exact HS.out j hj (by omega)
          · by_cases q2 : (122 : Int) < y
            · have hf := HWS.out (by omega)
              subst hf
              have q3 : ¬ y < (48 : Int) := by omega
              have q4 : (57 : Int) < y := by omega
              go_wp2
              go_ret
              exact ⟨rfl, H0.out.trans (acc.mono H0.out.size)⟩
            · have hsm := Lib.hid (HGD.out (by omega))
              go_wp2
              go_roundg (n.size - (i + 1))
              case measure => omega
              case rel =>
                refine ⟨i + 1, by omega, by omega, by go_num, fun j hj h => ?_, rfl⟩
                by_cases e : j = i
                · subst e; exact hsm.out
                · exact HS.out j hj (by omega)
        · have hltz : ¬ (i : Int) < (n.size : Int) := by omega
          have hall : n.data.toList.all smB = true := by
            rw [List.all_eq_true]
            intro b hb
            obtain ⟨j, hj, rfl⟩ := List.getElem_of_mem hb
            exact HS.out j hj (by omega)
          have hf : R = (decide (1 ≤ n.size) && decide (n.size ≤ 8)) := by
            rw [HF.out]
            unfold word
            rw [hall, hnl]
            simp
          have HF2 := Lib.hid hf
          clear hall hf
          by_cases g1 : 1 ≤ (n.size : Int)
          · by_cases g8 : (n.size : Int) ≤ 8
            · have hf : R = true := by rw [HF2.out, decide_eq_true (by omega), decide_eq_true (by omega)]; rfl
              subst hf
              go_wp2
              go_ret
              exact ⟨rfl, H0.out.trans (acc.mono H0.out.size)⟩
            · have hf : R = false := by rw [HF2.out, decide_eq_false (p := n.size ≤ 8) (by omega)]; simp
              subst hf
              go_wp2
              go_ret
              exact ⟨rfl, H0.out.trans (acc.mono H0.out.size)⟩
          · have hf : R = false := by rw [HF2.out, decide_eq_false (p := 1 ≤ n.size) (by omega)]; rfl
            subst hf
            go_wp2
            go_ret
            exact ⟨rfl, H0.out.trans (acc.mono H0.out.size)⟩
end Go.Proofs.YtnifihnlmanpkaaDoor
