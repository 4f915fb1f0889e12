/-
  legateref5.Up, Under.
-/
import Derived.Test.YtcleonpckgfdhaaGreatDoorUnders
import Derived.Test.YtcleonpckgfdhaaGreatDoorUpText
set_option linter.unusedVariables false
set_option linter.unusedSimpArgs false
namespace Go.Proofs.YtcleonpckgfdhaaGreatDoor
open Go Go.RowKit Go.Lib Go.Shelf

theorem byte_at (s : ByteArray) (i : Nat) (h : i < s.size) : s.data.toList[i]? = some (s[i]'h) := by
  have hl : i < s.data.toList.length := h
  rw [List.getElem?_eq_getElem hl]
  rfl
theorem byte_not {s : ByteArray} {i : Nat} (h : i < s.size) {c : UInt8} (hc : s[i]'h ≠ c) : s.data.toList[i]? ≠ some c := by
  rw [byte_at s i h]
  simpa using hc
theorem byte_past {s : ByteArray} {i : Nat} (h : s.size ≤ i) (c : UInt8) : s.data.toList[i]? ≠ some c := by
  have hl : s.data.toList.length ≤ i := h
  rw [List.getElem?_eq_none hl]
  simp
theorem data_len (s : ByteArray) : s.data.toList.length = s.size := rfl

set_option maxHeartbeats 2000000 in
theorem refup_any (w : World) (s : ByteArray) (hs : s.size < 90000) :
    Calls Tryz.prog 44 #[.string s] w fun e w' => e = .returned (.string ⟨(upOf s.data.toList).toArray⟩) ∧ Below w.heap.size w w' := by
  have hK := refkind_any w s hs
  obtain ⟨R, hR⟩ : ∃ R, R = upOf s.data.toList := ⟨_, rfl⟩
  rw [← hR]
  have HR := Lib.hid hR
  clear hR
  rcases kindOf_le s.data.toList with h0 | h1 | h2
  · have hRe : R = [] := HR.out.trans (up_none h0)
    subst hRe
    rw [h0] at hK
    clear h0
    go_enter Tryz.func44, Tryz.ntmps44
    go_wp2_with (go_at_call 53; refine hK.mono ?_; rintro e w1 ⟨rfl, hb⟩)
    go_ret
    exact ⟨rfl, hb⟩
  · have HK1 := Lib.hid h1
    rw [h1] at hK
    clear h1
    go_enter Tryz.func44, Tryz.ntmps44
    go_wp2_with (go_at_call 53; refine hK.mono ?_; rintro e w1 ⟨rfl, hb⟩)
    go_loopg [3] s.size (fun gg s3 wr => ∃ i : Nat, i ≤ s.size ∧ s.size - i ≤ gg ∧ s3 = .int .i64 i ∧ Aside (∀ j, j < i → s.data.toList[j]? ≠ some 46) ∧ Aside (wr = w1))
    case atStart => exact ⟨0, by omega, by omega, rfl, fun j hj => absurd hj (Nat.not_lt_zero _), rfl⟩
    case round =>
      obtain ⟨i, hi, hgg, rfl, HN, HQ⟩ := hrel
      have hq := HQ.out
      subst hq
      clear HQ
      by_cases hlt : i < s.size
      · have hltz : (i : Int) < (s.size : Int) := by omega
        by_cases hc : s[i]'hlt = 46
        · have hcb : (((s[i]'hlt).toNat : Int) == 46) = true := by rw [hc]; rfl
          have hle : (i : Int) + 1 ≤ (s.size : Int) := by omega
          have hRe : R = s.data.toList.drop (i + 1) := HR.out.trans (up_dot HK1.out HN.out (by rw [byte_at s i hlt, hc]))
          have hx : (s.extract (i + 1) s.size) = ⟨R.toArray⟩ := by
            rw [ext_eq, hRe, show s.data.toList.take s.size = s.data.toList from List.take_of_length_le (Nat.le_refl s.data.toList.length)]
          have HX := Lib.hid hx
          clear hRe hx hc
          go_wp2
          go_ret
          exact ⟨by show Ending.returned (.string (s.extract (i + 1) s.size)) = _; rw [HX.out], hb⟩
        · have hcb : (((s[i]'hlt).toNat : Int) == 46) = false := by
            rw [beq_eq_false_iff_ne]
            intro e
            exact hc (UInt8.toNat_inj.1 (by have : (46 : UInt8).toNat = 46 := rfl; omega))
          have HC := Lib.hid (byte_not hlt hc)
          clear hc
          go_wp2
          go_roundg (s.size - (i + 1))
          case measure => omega
          case rel =>
            refine ⟨i + 1, by omega, by omega, by go_num, fun j hj => ?_, rfl⟩
            by_cases e : j = i
            · subst e; exact HC.out
            · exact HN.out j (by omega)
      · have hltz : ¬ (i : Int) < (s.size : Int) := by omega
        have hRe : R = [] := HR.out.trans (up_nodot HK1.out (fun j hj => HN.out j (by rw [data_len] at hj; omega)))
        subst hRe
        go_wp2
        go_ret
        exact ⟨rfl, hb⟩
  · have HK2 := Lib.hid h2
    have hpos : 0 < s.size := by
      rcases Nat.eq_zero_or_pos s.size with h | h
      · have e : s.data.toList = [] := List.length_eq_zero_iff.1 h
        rw [e] at h2
        exact absurd h2 (by decide)
      · exact h
    rw [h2] at hK
    clear h2
    have hst : (s.size : Int) - 1 = ((s.size - 1 : Nat) : Int) := by omega
    go_enter Tryz.func44, Tryz.ntmps44
    go_wp2_with (go_at_call 53; refine hK.mono ?_; rintro e w1 ⟨rfl, hb⟩)
    go_loopg [4] s.size (fun gg s4 wr => ∃ i : Nat, i < s.size ∧ i ≤ gg ∧ s4 = .int .i64 i ∧ Aside (∀ j, i < j → s.data.toList[j]? ≠ some 47) ∧ Aside (wr = w1))
    case atStart => exact ⟨s.size - 1, by omega, by omega, rfl, fun j hj => byte_past (by omega) 47, rfl⟩
    case round =>
      obtain ⟨i, hi, hgg, rfl, HN, HQ⟩ := hrel
      have hq := HQ.out
      subst hq
      clear HQ
      by_cases hi0 : 0 < i
      · have hiz : (0 : Int) < (i : Int) := by omega
        have hiz2 : (i : Int) < (s.size : Int) := by omega
        by_cases hc : s[i]'hi = 47
        · have hcb : (((s[i]'hi).toNat : Int) == 47) = true := by rw [hc]; rfl
          have hle : (i : Int) ≤ (s.size : Int) := by omega
          have hRe : R = s.data.toList.take i := HR.out.trans (up_slash HK2.out hi hi0 HN.out (by rw [byte_at s i hi, hc]))
          have hx : (s.extract 0 i) = ⟨R.toArray⟩ := by
            rw [ext_eq, hRe, List.drop_zero]
          have HX := Lib.hid hx
          clear hRe hx hc
          go_wp2
          go_ret
          exact ⟨by show Ending.returned (.string (s.extract 0 i)) = _; rw [HX.out], hb⟩
        · have hcb : (((s[i]'hi).toNat : Int) == 47) = false := by
            rw [beq_eq_false_iff_ne]
            intro e
            exact hc (UInt8.toNat_inj.1 (by have : (47 : UInt8).toNat = 47 := rfl; omega))
          have HC := Lib.hid (byte_not hi hc)
          have hsub : (i : Int) - 1 = ((i - 1 : Nat) : Int) := by omega
          clear hc
          go_wp2
          go_roundg (i - 1)
          case measure => omega
          case rel =>
            refine ⟨i - 1, by omega, by omega, by first | rfl | (congr 1; omega), fun j hj => ?_, rfl⟩
            by_cases e : j = i
            · subst e; exact HC.out
            · exact HN.out j (by omega)
      · have hiz : ¬ (0 : Int) < (i : Int) := by omega
        have hRe : R = [] := HR.out.trans (up_noslash HK2.out (fun j hj => HN.out j (by omega)))
        subst hRe
        go_wp2
        go_ret
        exact ⟨rfl, hb⟩
end Go.Proofs.YtcleonpckgfdhaaGreatDoor
