/-
  legateref6.sub.
-/
import Derived.Test.YtjbdegcmolimoaaDoorTrRefAdd
set_option linter.unusedVariables false
set_option linter.unusedSimpArgs false
namespace Go.Proofs.YtjbdegcmolimoaaDoor
open Go Go.RowKit Go.Lib Go.Shelf

def RSubPost (w w' : World) (s p : Str) (e : Ending) : Prop := ∃ t : ByteArray, e = .returned (.string t) ∧ t.data.toList = (subOf s p).getD [] ∧ Below w.heap.size w w'

theorem rsub_end {w w' : World} {s p r : Str} {t : ByteArray} (h : subRaw s p = some r) (ht : t.data.toList = r) (hi : isR r = true) (hb : Below w.heap.size w w') : RSubPost w w' s p (.returned (.string t)) :=
  ⟨t, rfl, by rw [sub_some h, if_pos hi, ht]; rfl, hb⟩
theorem rsub_end1 {w w' : World} {s p r : Str} (h : subRaw s p = some r) (hi : isR r = false) (hb : Below w.heap.size w w') : RSubPost w w' s p (.returned (.string ⟨#[]⟩)) :=
  ⟨_, rfl, by rw [sub_some h, if_neg (by rw [hi]; simp)]; rfl, hb⟩
theorem rsub_end0 {w w' : World} {s p : Str} (h : subOf s p = none) (hb : Below w.heap.size w w') : RSubPost w w' s p (.returned (.string ⟨#[]⟩)) :=
  ⟨_, rfl, by rw [h]; rfl, hb⟩
theorem kind2_head {r : Str} (h : r.head? ≠ some 47) : kindOf r ≠ 2 := fun e => h (realm_head2 e)
theorem byte_eq {b c : UInt8} (h : b = c) : ((b.toNat : Int) == (c.toNat : Int)) = true := by subst h; simp
theorem byte_ne {b c : UInt8} (h : b ≠ c) : ((b.toNat : Int) == (c.toNat : Int)) = false := by
  rw [beq_eq_false_iff_ne]
  intro e
  exact h (UInt8.toNat_inj.1 (by omega))

set_option maxHeartbeats 4000000 in
theorem refsub_any (w : World) (s p : ByteArray) (hs0 : s.data.toList ≠ []) (ss : s.size < 80000) (sp : p.size < 9000) :
    Calls Tryd.prog 39 #[.string s, .string p] w fun e w' => RSubPost w w' s.data.toList p.data.toList e := by
  have acc : Below w.heap.size w w := Below.refl _ _
  have hsl : s.data.toList.length = s.size := rfl
  have h0 : 0 < s.size := by
    rw [← hsl]
    exact List.length_pos_iff.2 hs0
  have h0z : (0 : Int) < (s.size : Int) := by omega
  have h1 : s.size - 1 < s.size := by omega
  have h1z : ((s.size - 1 : Nat) : Int) < (s.size : Int) := by omega
  have hst : (s.size : Int) - 1 = ((s.size - 1 : Nat) : Int) := by omega
  have hss : s.size < 90000 := by omega
  have hsp : p.size < 90000 := by omega
  have hhd : s.data.toList.head? = some (s[0]'h0) := by
    cases h : s.data.toList with
    | nil => exact absurd h hs0
    | cons b t =>
      have e : s.data.toList[0]'(by rw [hsl]; exact h0) = b := by simp [h]
      rw [← e]
      rfl
  have hla : s.data.toList.getLast? = some (s[s.size - 1]'h1) := by
    rw [List.getLast?_eq_getElem?, hsl, List.getElem?_eq_getElem (by rw [hsl]; exact h1)]
    rfl
  by_cases hl : s[s.size - 1]'h1 = 46
  · have hl1 := byte_eq hl
    have hl2 : (((s[s.size - 1]'h1).toNat : Int) == 46) = true := hl1
    rw [hl] at hla
    clear hl hl1
    by_cases hp : p.data.toList = []
    · have HRW := Lib.hid (sub_none (show subRaw s.data.toList p.data.toList = none by unfold subRaw; rw [if_pos hla, if_pos hp]))
      have hp1 := (empty_iff p).2 hp
      clear hp hla hhd hs0
      go_enter Tryd.func39, Tryd.ntmps39
      go_wp2
      go_ret
      exact rsub_end0 HRW.out acc
    · have hp1 : ¬ p.toList = [] := fun e => hp ((empty_iff p).1 e)
      have hp2 : p.toList.isEmpty = false := by simpa using hp1
      have HRW := Lib.hid (show subRaw s.data.toList p.data.toList = some (s.data.toList ++ p.data.toList) by unfold subRaw; rw [if_pos hla, if_neg hp])
      have hed : (s ++ p).data.toList = s.data.toList ++ p.data.toList := by exact cat_data _ _
      have hes : (s ++ p).size < 90000 := by rw [cat_size]; omega
      have HED := Lib.hid hed
      cases hb : isR (s.data.toList ++ p.data.toList) with
      | false =>
        have hi : isR (s ++ p).data.toList = false := by rw [hed]; exact hb
        have HB := Lib.hid hb
        clear hb hed hhd hla hs0
        go_enter Tryd.func39, Tryd.ntmps39
        go_wp2_with (go_at_call 14; refine (refis_any _ _ (by assumption)).mono ?_; rintro e w2 ⟨rfl, hb⟩; rw [hi]; replace acc := acc.trans (hb.mono acc.size); clear hb)
        go_ret
        exact rsub_end1 HRW.out HB.out acc
      | true =>
        have hi : isR (s ++ p).data.toList = true := by rw [hed]; exact hb
        have HB := Lib.hid hb
        clear hb hed hhd hla hs0
        go_enter Tryd.func39, Tryd.ntmps39
        go_wp2_with (go_at_call 14; refine (refis_any _ _ (by assumption)).mono ?_; rintro e w2 ⟨rfl, hb⟩; rw [hi]; replace acc := acc.trans (hb.mono acc.size); clear hb)
        go_ret
        exact rsub_end HRW.out HED.out HB.out acc
  · have hl1 := byte_ne hl
    have hl2 : (((s[s.size - 1]'h1).toNat : Int) == 46) = false := hl1
    have hla2 : s.data.toList.getLast? ≠ some 46 := by rw [hla]; simpa using hl
    clear hl hl1
    by_cases hh : s[0]'h0 = 47
    · have hh1 := byte_eq hh
      have hh2 : (((s[0]'h0).toNat : Int) == 47) = true := hh1
      have hh3 : (((s[0]'h0).toNat : Int) == 32) = false := by rw [hh]; rfl
      rw [hh] at hhd
      clear hh hh1
      obtain ⟨K, hK⟩ : ∃ K, kindOf p.data.toList = K := ⟨_, rfl⟩
      by_cases hk : K = 2
      · subst hk
        have HRW := Lib.hid (show subRaw s.data.toList p.data.toList = some (p.data.toList ++ s.data.toList) by unfold subRaw; rw [if_neg hla2, if_pos hhd, if_pos hK])
        have hed : (p ++ s).data.toList = p.data.toList ++ s.data.toList := by exact cat_data _ _
        have hes : (p ++ s).size < 90000 := by rw [cat_size]; omega
        have HED := Lib.hid hed
        cases hb : isR (p.data.toList ++ s.data.toList) with
        | false =>
          have hi : isR (p ++ s).data.toList = false := by rw [hed]; exact hb
          have HB := Lib.hid hb
          clear hb hed hhd hla hs0
          go_enter Tryd.func39, Tryd.ntmps39
          go_wp2_with (first
            | (go_at_call 20; refine (refkind_any _ _ (by assumption)).mono ?_; rintro e w2 ⟨rfl, hb⟩; rw [hK]; replace acc := acc.trans (hb.mono acc.size); clear hb)
            | (go_at_call 14; refine (refis_any _ _ (by assumption)).mono ?_; rintro e w2 ⟨rfl, hb⟩; rw [hi]; replace acc := acc.trans (hb.mono acc.size); clear hb))
          go_ret
          exact rsub_end1 HRW.out HB.out acc
        | true =>
          have hi : isR (p ++ s).data.toList = true := by rw [hed]; exact hb
          have HB := Lib.hid hb
          clear hb hed hhd hla hs0
          go_enter Tryd.func39, Tryd.ntmps39
          go_wp2_with (first
            | (go_at_call 20; refine (refkind_any _ _ (by assumption)).mono ?_; rintro e w2 ⟨rfl, hb⟩; rw [hK]; replace acc := acc.trans (hb.mono acc.size); clear hb)
            | (go_at_call 14; refine (refis_any _ _ (by assumption)).mono ?_; rintro e w2 ⟨rfl, hb⟩; rw [hi]; replace acc := acc.trans (hb.mono acc.size); clear hb))
          go_ret
          exact rsub_end HRW.out HED.out HB.out acc
      · have hkz : ((K : Int) == 2) = false := by rw [beq_eq_false_iff_ne]; omega
        have HRW := Lib.hid (show subRaw s.data.toList p.data.toList = some (s.data.toList) by unfold subRaw; rw [if_neg hla2, if_pos hhd, if_neg (by rw [hK]; exact hk)])
        have hed : (s).data.toList = s.data.toList := by rfl
        have hes : (s).size < 90000 := by omega
        have HED := Lib.hid hed
        cases hb : isR (s.data.toList) with
        | false =>
          have hi : isR (s).data.toList = false := by rw [hed]; exact hb
          have HB := Lib.hid hb
          clear hb hed hhd hla hs0
          go_enter Tryd.func39, Tryd.ntmps39
          go_wp2_with (first
            | (go_at_call 20; refine (refkind_any _ _ (by assumption)).mono ?_; rintro e w2 ⟨rfl, hb⟩; rw [hK]; replace acc := acc.trans (hb.mono acc.size); clear hb)
            | (go_at_call 14; refine (refis_any _ _ (by assumption)).mono ?_; rintro e w2 ⟨rfl, hb⟩; rw [hi]; replace acc := acc.trans (hb.mono acc.size); clear hb))
          go_ret
          exact rsub_end1 HRW.out HB.out acc
        | true =>
          have hi : isR (s).data.toList = true := by rw [hed]; exact hb
          have HB := Lib.hid hb
          clear hb hed hhd hla hs0
          go_enter Tryd.func39, Tryd.ntmps39
          go_wp2_with (first
            | (go_at_call 20; refine (refkind_any _ _ (by assumption)).mono ?_; rintro e w2 ⟨rfl, hb⟩; rw [hK]; replace acc := acc.trans (hb.mono acc.size); clear hb)
            | (go_at_call 14; refine (refis_any _ _ (by assumption)).mono ?_; rintro e w2 ⟨rfl, hb⟩; rw [hi]; replace acc := acc.trans (hb.mono acc.size); clear hb))
          go_ret
          exact rsub_end HRW.out rfl HB.out acc
    · have hh1 := byte_ne hh
      have hh2 : (((s[0]'h0).toNat : Int) == 47) = false := hh1
      have hhd2 : s.data.toList.head? ≠ some 47 := by rw [hhd]; simpa using hh
      clear hh hh1
      by_cases hb' : s[0]'h0 = 32
      · have hb1 := byte_eq hb'
        have hb2 : (((s[0]'h0).toNat : Int) == 32) = true := hb1
        rw [hb'] at hhd
        clear hb' hb1
        have htl : (s.extract 1 s.size).data.toList = s.data.toList.tail := by rw [Lib.extract_to_end, List.drop_one]
        have htz : (s.extract 1 s.size).size < 90000 := by rw [ByteArray.size_extract]; omega
        obtain ⟨K, hK⟩ : ∃ K, kindOf (s.extract 1 s.size).data.toList = K := ⟨_, rfl⟩
        by_cases hk : K = 2
        · subst hk
          have hth : s.data.toList.tail.head? = some 47 := by rw [← htl]; exact realm_head2 hK
          have HRW := Lib.hid (show subRaw s.data.toList p.data.toList = some (s.data.toList.tail) by unfold subRaw; rw [if_neg hla2, if_neg hhd2, if_pos hhd, if_pos hth])
          have hed : (s.extract 1 s.size).data.toList = s.data.toList.tail := by rw [Lib.extract_to_end, List.drop_one]
          have hes : (s.extract 1 s.size).size < 90000 := by rw [ByteArray.size_extract]; omega
          have HED := Lib.hid hed
          cases hb : isR (s.data.toList.tail) with
          | false =>
            have hi : isR (s.extract 1 s.size).data.toList = false := by rw [hed]; exact hb
            have HB := Lib.hid hb
            clear hb hed hhd hla hs0
            go_enter Tryd.func39, Tryd.ntmps39
            go_wp2_with (first
              | (go_at_call 20; refine (refkind_any _ _ (by assumption)).mono ?_; rintro e w2 ⟨rfl, hb⟩; rw [hK]; replace acc := acc.trans (hb.mono acc.size); clear hb)
              | (go_at_call 14; refine (refis_any _ _ (by assumption)).mono ?_; rintro e w2 ⟨rfl, hb⟩; rw [hi]; replace acc := acc.trans (hb.mono acc.size); clear hb))
            go_ret
            exact rsub_end1 HRW.out HB.out acc
          | true =>
            have hi : isR (s.extract 1 s.size).data.toList = true := by rw [hed]; exact hb
            have HB := Lib.hid hb
            clear hb hed hhd hla hs0
            go_enter Tryd.func39, Tryd.ntmps39
            go_wp2_with (first
              | (go_at_call 20; refine (refkind_any _ _ (by assumption)).mono ?_; rintro e w2 ⟨rfl, hb⟩; rw [hK]; replace acc := acc.trans (hb.mono acc.size); clear hb)
              | (go_at_call 14; refine (refis_any _ _ (by assumption)).mono ?_; rintro e w2 ⟨rfl, hb⟩; rw [hi]; replace acc := acc.trans (hb.mono acc.size); clear hb))
            go_ret
            exact rsub_end HRW.out HED.out HB.out acc
        · have hkz : ((K : Int) == 2) = false := by rw [beq_eq_false_iff_ne]; omega
          have HRW := Lib.hid (show subOf s.data.toList p.data.toList = none by
            by_cases hth : s.data.toList.tail.head? = some 47
            · rw [sub_some (show subRaw s.data.toList p.data.toList = some s.data.toList.tail by unfold subRaw; rw [if_neg hla2, if_neg hhd2, if_pos hhd, if_pos hth]), if_neg]
              intro hr
              rw [htl] at hK
              rcases isR_cases hr with h | h
              · exact head1_not h 47 (by decide) hth
              · omega
            · exact sub_none (by unfold subRaw; rw [if_neg hla2, if_neg hhd2, if_pos hhd, if_neg hth]))
          clear hhd hla hs0 htl hla2 hhd2
          go_enter Tryd.func39, Tryd.ntmps39
          go_wp2_with (go_at_call 20; refine (refkind_any _ _ (by assumption)).mono ?_; rintro e w2 ⟨rfl, hb⟩; rw [hK]; replace acc := acc.trans (hb.mono acc.size); clear hb)
          go_ret
          exact rsub_end0 HRW.out acc
      · have hb1 := byte_ne hb'
        have hb2 : (((s[0]'h0).toNat : Int) == 32) = false := hb1
        have hhd3 : s.data.toList.head? ≠ some 32 := by rw [hhd]; simpa using hb'
        clear hb' hb1
        have HRW := Lib.hid (show subRaw s.data.toList p.data.toList = some (s.data.toList) by unfold subRaw; rw [if_neg hla2, if_neg hhd2, if_neg hhd3])
        have hed : (s).data.toList = s.data.toList := by rfl
        have hes : (s).size < 90000 := by omega
        have HED := Lib.hid hed
        cases hb : isR (s.data.toList) with
        | false =>
          have hi : isR (s).data.toList = false := by rw [hed]; exact hb
          have HB := Lib.hid hb
          clear hb hed hhd hla hs0
          go_enter Tryd.func39, Tryd.ntmps39
          go_wp2_with (go_at_call 14; refine (refis_any _ _ (by assumption)).mono ?_; rintro e w2 ⟨rfl, hb⟩; rw [hi]; replace acc := acc.trans (hb.mono acc.size); clear hb)
          go_ret
          exact rsub_end1 HRW.out HB.out acc
        | true =>
          have hi : isR (s).data.toList = true := by rw [hed]; exact hb
          have HB := Lib.hid hb
          clear hb hed hhd hla hs0
          go_enter Tryd.func39, Tryd.ntmps39
          go_wp2_with (go_at_call 14; refine (refis_any _ _ (by assumption)).mono ?_; rintro e w2 ⟨rfl, hb⟩; rw [hi]; replace acc := acc.trans (hb.mono acc.size); clear hb)
          go_ret
          exact rsub_end HRW.out rfl HB.out acc
end Go.Proofs.YtjbdegcmolimoaaDoor
