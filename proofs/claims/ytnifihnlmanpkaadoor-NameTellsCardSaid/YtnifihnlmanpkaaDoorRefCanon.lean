/-
  legateref5.Canon.
-/
import Derived.Test.YtnifihnlmanpkaaDoorCanon
set_option linter.unusedVariables false
set_option linter.unusedSimpArgs false
namespace Go.Proofs.YtnifihnlmanpkaaDoor
open Go Go.RowKit Go.Lib Go.Shelf

set_option maxHeartbeats 1000000 in
theorem refcanon_any (w : World) (s : ByteArray) (hs : s.size < 90000) :
    Calls Tryd.prog 26 #[.string s] w fun e w' => e = .returned (.string ⟨(canonOf s.data.toList).toArray⟩) ∧ Below w.heap.size w w' := by
  have hsl : s.data.toList.length = s.size := rfl
  go_enter Tryd.func26, Tryd.ntmps26
  go_wp2_with (refine wpList_bytes _ rfl (.tmp 5) rfl s rfl ?_; intro cap w1 hB1 hb1 hs1)
  go_loopg [4] s.size (fun gg s10 wr => ∃ i : Nat, i ≤ s.size ∧ s.size - i ≤ gg ∧ s10 = .int .i64 i ∧ Aside (BytesAt wr w.heap.size (canonOf (s.data.toList.take i) ++ s.data.toList.drop i)) ∧ Aside (Below w.heap.size w wr))
  case atStart => exact ⟨0, by omega, by omega, rfl, by show BytesAt w1 w.heap.size (canonOf (s.data.toList.take 0) ++ s.data.toList.drop 0); simpa [canonOf] using hB1, hb1⟩
  case round =>
    obtain ⟨i, hi, hgg, rfl, HA, HB⟩ := hrel
    by_cases hlt : i < s.size
    · have hltz : (i : Int) < (s.size : Int) := by omega
      have hlen : (canonOf (s.data.toList.take i) ++ s.data.toList.drop i).length = s.size := by simp [canonOf]; omega
      have hget : ((canonOf (s.data.toList.take i) ++ s.data.toList.drop i)[i]'(by rw [hlen]; exact hlt)) = s[i]'hlt := by
        rw [List.getElem_append_right (by simp [canonOf]; omega)]
        have e : s.data.toList[i]'hlt = s[i]'hlt := rfl
        rw [← e, List.getElem_drop]
        congr 1
        simp [canonOf]
        omega
      have c0 := HA.out.cell (j := i) (by rw [hlen]; exact hlt)
      have f0 := HA.out.frozen (j := i) (by rw [hlen]; exact hlt)
      rw [hget] at c0
      obtain ⟨y, hy⟩ : ∃ y, s[i]'hlt = y := ⟨_, rfl⟩
      rw [hy] at c0
      have hy8 : (y.toNat : Int) < 256 := by have := y.toNat_lt; omega
      have hstep : canonOf (s.data.toList.take (i + 1)) ++ s.data.toList.drop (i + 1) = (canonOf (s.data.toList.take i) ++ s.data.toList.drop i).set i (bigB y) := by
        rw [take_next s i hlt, hy]
        have hd : s.data.toList.drop i = s[i]'hlt :: s.data.toList.drop (i + 1) := by
          have e : s.data.toList[i]'hlt = s[i]'hlt := rfl
          rw [← e]
          exact List.drop_eq_getElem_cons hlt
        have hlc : (canonOf (s.data.toList.take i)).length = i := by simp [canonOf]; omega
        rw [hd, List.set_append_right _ _ (by omega), hlc, Nat.sub_self]
        simp [canonOf]
      have HST := Lib.hid hstep
      have hs0 : bigB y = y → (canonOf (s.data.toList.take i) ++ s.data.toList.drop i).set i (bigB y) = canonOf (s.data.toList.take i) ++ s.data.toList.drop i := fun hb => by
        rw [hb, ← hy, ← hget]
        exact List.set_getElem_self _
      have HS0 := Lib.hid hs0
      clear hstep hs0 hget hlen
      by_cases q1 : (97 : Int) ≤ (y.toNat : Int)
      · by_cases q2 : (y.toNat : Int) ≤ 122
        · have hval : (y.toNat : Int) - 32 = ((bigB y).toNat : Int) := by
            unfold bigB
            rw [if_pos ⟨by omega, by omega⟩, UInt8.toNat_sub_of_le y 32 (by rw [UInt8.le_iff_toNat_le]; show 32 ≤ y.toNat; omega)]
            have : (32 : UInt8).toNat = 32 := rfl
            omega
          have HV := Lib.hid hval
          clear hval
          go_wp2
          go_roundg (s.size - (i + 1))
          case measure => omega
          case rel =>
            refine ⟨i + 1, by omega, by omega, by go_num, ?_, HB.out.setCell (Nat.le_refl _) _⟩
            rw [HST.out, HV.out]
            exact HA.out.set (by simp [canonOf]; omega) (bigB y)
        · have hbig : bigB y = y := by unfold bigB; rw [if_neg (by omega)]
          have hsame := HS0.out hbig
          have HSM := Lib.hid hsame
          clear hbig hsame
          go_wp2
          go_roundg (s.size - (i + 1))
          case measure => omega
          case rel => exact ⟨i + 1, by omega, by omega, by go_num, by rw [HST.out, HSM.out]; exact HA.out, HB.out⟩
      · have hbig : bigB y = y := by unfold bigB; rw [if_neg (by omega)]
        have hsame := HS0.out hbig
        have HSM := Lib.hid hsame
        clear hbig hsame
        go_wp2
        go_roundg (s.size - (i + 1))
        case measure => omega
        case rel => exact ⟨i + 1, by omega, by omega, by go_num, by rw [HST.out, HSM.out]; exact HA.out, HB.out⟩
    · have hltz : ¬ (i : Int) < (s.size : Int) := by omega
      have hi' : i = s.size := by omega
      subst hi'
      have hA : BytesAt wr w.heap.size (canonOf s.data.toList) := by
        have h := HA.out
        have e1 : s.data.toList.take s.size = s.data.toList := List.take_of_length_le (Nat.le_refl s.data.toList.length)
        have e2 : s.data.toList.drop s.size = [] := List.drop_of_length_le (Nat.le_refl s.data.toList.length)
        rw [e1, e2, List.append_nil] at h
        exact h
      have hback := run_back hA cap s.size (by simp [canonOf])
      clear hA
      go_wp2
      go_ret
      exact ⟨rfl, HB.out⟩
end Go.Proofs.YtnifihnlmanpkaaDoor
