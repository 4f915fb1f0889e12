/-
  legateref5.Kind, Is, Krbtgt, Target, IsPrinc.
-/
import Derived.Test.YtcleonpckgfdhaaGreatDoorRefLab
set_option linter.unusedVariables false
set_option linter.unusedSimpArgs false
namespace Go.Proofs.YtcleonpckgfdhaaGreatDoor
open Go Go.RowKit Go.Lib Go.Shelf

theorem okL_iff (l : List Str) (hl : l ≠ []) : okL l = true ↔ ¬ (4 < l.length ∨ l.any (fun s => !word upB s) = true) := by
  have h1 : 1 ≤ l.length := List.length_pos_iff.2 hl
  simp only [okL, Bool.and_eq_true, decide_eq_true_eq, List.all_eq_true, not_or, List.any_eq_true, not_exists, not_and, Bool.not_eq_true', Bool.not_eq_false]
  constructor
  · rintro ⟨_, h4, h⟩
    exact ⟨by omega, h⟩
  · rintro ⟨h4, h⟩
    exact ⟨h1, by omega, h⟩

theorem okL_reverse (l : List Str) : okL l.reverse = okL l := by simp [okL]

theorem okL_slash (t : Str) : okL (splitOn 46 (47 :: t)) = false := by
  have hw : ∀ x : Str, word upB (47 :: x) = false := fun x => by
    have : upB 47 = false := by decide
    simp [word, this]
  cases h : splitOn 46 t with
  | nil => exact absurd h (splitOn_ne 46 t)
  | cons y r =>
    have e : splitOn 46 (47 :: t) = (47 :: y) :: r := by
      rw [splitOn, if_neg (by decide), h]
    rw [e]
    simp [okL, hw]

theorem kind_slash (t : Str) : kindOf (47 :: t) = if okL (splitOn 47 t) = true then 2 else 0 := by
  have hp : parts (47 :: t) = (splitOn 47 t, 2) := rfl
  unfold kindOf labelsOf
  rw [hp]
  by_cases h : okL (splitOn 47 t) = true
  · rw [if_pos h, if_neg ((okL_iff _ (splitOn_ne 47 t)).1 h)]
  · rw [if_neg h, if_pos]
    have := mt (okL_iff _ (splitOn_ne 47 t)).2 h
    exact Classical.not_not.1 this

theorem kind_other {r : Str} (hr : ∀ t, r ≠ 47 :: t) : kindOf r = if okL (splitOn 46 r) = true then 1 else 0 := by
  have hp : parts r = ((splitOn 46 r).reverse, 1) := by
    unfold parts
    split
    · exact absurd rfl (hr _)
    · rfl
  have hne : (splitOn 46 r).reverse ≠ [] := by simpa using splitOn_ne 46 r
  unfold kindOf labelsOf
  rw [hp]
  rw [← okL_reverse]
  by_cases h : okL (splitOn 46 r).reverse = true
  · rw [if_pos h, if_neg ((okL_iff _ hne).1 h)]
  · rw [if_neg h, if_pos]
    exact Classical.not_not.1 (mt (okL_iff _ hne).2 h)

theorem refsplit47 (w : World) (s : ByteArray) (hs : s.size < 1100000) : Calls Tryz.prog 64 #[.string s, .int .u8 47] w fun e w' => RowPost w w' (splitOn 47 s.data.toList).length (splitOn 47 s.data.toList) e := refsplit_any w s 47 hs
theorem refsplit46 (w : World) (s : ByteArray) (hs : s.size < 1100000) : Calls Tryz.prog 64 #[.string s, .int .u8 46] w fun e w' => RowPost w w' (splitOn 46 s.data.toList).length (splitOn 46 s.data.toList) e := refsplit_any w s 46 hs

theorem split_small (c : UInt8) (s : ByteArray) (hs : s.size < 1100000) : (splitOn c s.data.toList).length ≤ 2200000 := by
  have h := splitOn_len c s.data.toList
  have e : s.data.toList.length = s.size := rfl
  omega

set_option maxHeartbeats 1000000 in
theorem refkind_big (w : World) (s : ByteArray) (hs : s.size < 1100000) :
    Calls Tryz.prog 53 #[.string s] w fun e w' => e = .returned (.int .i64 (kindOf s.data.toList)) ∧ Below w.heap.size w w' := by
  have hd := fun w => refsplit46 w s hs
  have tok : True := trivial
  have hlab := fun w ad n c l (hA : At w ad n l) hn => reflabels_any w ad n c l hA hn
  by_cases hsl : ∃ t, s.data.toList = 47 :: t
  · obtain ⟨t, ht⟩ := hsl
    have hsz : s.size = t.length + 1 := by
      have e : s.data.toList.length = s.size := rfl
      rw [ht] at e
      simpa using e.symm
    have h0 : 0 < s.size := by omega
    have h0z : (0 : Int) < (s.size : Int) := by omega
    have h1z : (1 : Int) ≤ (s.size : Int) := by omega
    have hb0 : ((s[0]'h0).toNat : Int) = 47 := by
      have e : s.data.toList[0]'h0 = s[0]'h0 := rfl
      rw [← e]
      simp [ht]
    have hb0b : (((s[0]'h0).toNat : Int) == 47) = true := by rw [hb0]; rfl
    have hx : (s.extract 1 s.size).data.toList = t := by rw [Lib.extract_to_end, ht]; rfl
    have hxs : (s.extract 1 s.size).size < 1100000 := by rw [ByteArray.size_extract]; omega
    have hd7 := fun w => refsplit47 w (s.extract 1 s.size) hxs
    have hsm7 := split_small 47 (s.extract 1 s.size) hxs
    have hsm6 := split_small 46 s hs
    rw [hx] at hd7 hsm7
    have hno := okL_slash t
    rw [← ht] at hno
    have hk := kind_slash t
    rw [← ht] at hk
    cases hok : okL (splitOn 47 t)
    · rw [hok] at hk
      have HK := Lib.hid hk
      have HOK := Lib.hid hok
      have HNO := Lib.hid hno
      clear hk hok hno hx hb0 hsz ht
      go_enter Tryz.func53, Tryz.ntmps53
      go_wp2_with (first
        | (go_at_call 64; have _t := tok; refine (hd7 _).mono ?_; rintro e w1 ⟨ad1, c1, rfl, ho1, hc1, hb1⟩; clear tok)
        | (go_at_call 63; refine (hlab _ _ _ _ _ (At.owns ho1) hsm7).mono ?_; rintro e w2 ⟨rfl, rfl⟩; rw [HOK.out]; clear ho1)
        | (go_at_call 64; refine (hd _).mono ?_; rintro e w3 ⟨ad2, c2, rfl, ho2, hc2, hb2⟩)
        | (go_at_call 63; refine (hlab _ _ _ _ _ (At.owns ho2) hsm6).mono ?_; rintro e w4 ⟨rfl, rfl⟩; rw [HNO.out]))
      go_ret
      rw [HK.out]
      exact ⟨rfl, hb1.trans (hb2.mono hb1.size)⟩
    · rw [hok] at hk
      have HK := Lib.hid hk
      have HOK := Lib.hid hok
      clear hk hok hno hx hb0 hsz ht
      go_enter Tryz.func53, Tryz.ntmps53
      go_wp2_with (first
        | (go_at_call 64; have _t := tok; refine (hd7 _).mono ?_; rintro e w1 ⟨ad1, c1, rfl, ho1, hc1, hb1⟩; clear tok)
        | (go_at_call 63; refine (hlab _ _ _ _ _ (At.owns ho1) hsm7).mono ?_; rintro e w2 ⟨rfl, rfl⟩; rw [HOK.out]))
      go_ret
      rw [HK.out]
      exact ⟨rfl, hb1⟩
  · have hk := kind_other (r := s.data.toList) (fun t e => hsl ⟨t, e⟩)
    have hsm6 := split_small 46 s hs
    have hcase : (s.size = 0) ∨ ∃ h0 : 0 < s.size, ((s[0]'h0).toNat : Int) ≠ 47 := by
      rcases Nat.eq_zero_or_pos s.size with h | h
      · exact .inl h
      · refine .inr ⟨h, fun e => hsl ?_⟩
        have e1 : s.data.toList[0]'h = s[0]'h := rfl
        have e2 : s[0]'h = 47 := UInt8.toNat_inj.1 (by have : (47 : UInt8).toNat = 47 := rfl; omega)
        cases hl : s.data.toList with
        | nil => have e : s.data.toList.length = s.size := rfl; rw [hl] at e; simp at e; omega
        | cons b t =>
          refine ⟨t, ?_⟩
          have : s.data.toList[0]'h = b := by simp [hl]
          rw [← this, e1, e2]
    rcases hcase with h0 | ⟨h0, hne⟩
    · have h0z : ¬ (0 : Int) < (s.size : Int) := by omega
      cases hok : okL (splitOn 46 s.data.toList) <;> (
        rw [hok] at hk
        have HK := Lib.hid hk
        have HOK := Lib.hid hok
        clear hk hok hsl
        go_enter Tryz.func53, Tryz.ntmps53
        go_wp2_with (first
          | (go_at_call 64; refine (hd _).mono ?_; rintro e w3 ⟨ad2, c2, rfl, ho2, hc2, hb2⟩)
          | (go_at_call 63; refine (hlab _ _ _ _ _ (At.owns ho2) hsm6).mono ?_; rintro e w4 ⟨rfl, rfl⟩; rw [HOK.out]))
        go_ret
        rw [HK.out]
        exact ⟨rfl, hb2⟩)
    · have h0z : (0 : Int) < (s.size : Int) := by omega
      have hneb : (((s[0]'h0).toNat : Int) == 47) = false := by simpa using hne
      cases hok : okL (splitOn 46 s.data.toList) <;> (
        rw [hok] at hk
        have HK := Lib.hid hk
        have HOK := Lib.hid hok
        clear hk hok hsl
        go_enter Tryz.func53, Tryz.ntmps53
        go_wp2_with (first
          | (go_at_call 64; refine (hd _).mono ?_; rintro e w3 ⟨ad2, c2, rfl, ho2, hc2, hb2⟩)
          | (go_at_call 63; refine (hlab _ _ _ _ _ (At.owns ho2) hsm6).mono ?_; rintro e w4 ⟨rfl, rfl⟩; rw [HOK.out]))
        go_ret
        rw [HK.out]
        exact ⟨rfl, hb2⟩)

theorem refis_big (w : World) (s : ByteArray) (hs : s.size < 1100000) :
    Calls Tryz.prog 32 #[.string s] w fun e w' => e = .returned (.bool (isR s.data.toList)) ∧ Below w.heap.size w w' := by
  have hK := refkind_big w s hs
  have hr : decide ((0 : Int) < (kindOf s.data.toList : Int)) = isR s.data.toList := by
    unfold isR
    rcases kindOf_le s.data.toList with h | h | h <;> rw [h] <;> rfl
  have hr2 : decide (0 < kindOf s.data.toList) = isR s.data.toList := by
    unfold isR
    rcases kindOf_le s.data.toList with h | h | h <;> rw [h] <;> rfl
  go_enter Tryz.func32, Tryz.ntmps32
  go_wp2_with (go_at_call 53; refine hK.mono ?_; rintro e w1 ⟨rfl, hb⟩)
  go_ret
  exact ⟨by first | rfl | (rw [← hr]; rfl) | (rw [← hr2]; rfl), hb⟩

theorem refkind_any (w : World) (s : ByteArray) (hs : s.size < 90000) :
    Calls Tryz.prog 53 #[.string s] w fun e w' => e = .returned (.int .i64 (kindOf s.data.toList)) ∧ Below w.heap.size w w' := refkind_big w s (by omega)
theorem refis_any (w : World) (s : ByteArray) (hs : s.size < 90000) :
    Calls Tryz.prog 32 #[.string s] w fun e w' => e = .returned (.bool (isR s.data.toList)) ∧ Below w.heap.size w w' := refis_big w s (by omega)

end Go.Proofs.YtcleonpckgfdhaaGreatDoor
