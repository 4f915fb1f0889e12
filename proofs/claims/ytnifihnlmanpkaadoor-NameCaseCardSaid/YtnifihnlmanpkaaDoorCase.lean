/-
  NameCase: the walk of the law.
-/
import Derived.Test.YtnifihnlmanpkaaDoorCanon
import Derived.Test.YtnifihnlmanpkaaDoorWord
set_option linter.unusedVariables false
set_option linter.unusedSimpArgs false
namespace Go.Proofs.YtnifihnlmanpkaaDoor
open Go Go.RowKit Go.Lib Go.Shelf

def lowB (b : UInt8) : UInt8 := if 65 ≤ b.toNat ∧ b.toNat ≤ 90 then b + 32 else b
theorem big_big (l : Str) : canonOf (canonOf l) = canonOf l := by
  have h : ∀ b, bigB (bigB b) = bigB b := byte_all (by decide +kernel)
  unfold canonOf
  rw [List.map_map]
  exact List.map_congr_left fun b _ => h b
theorem big_low (l : Str) : canonOf (l.map lowB) = canonOf l := by
  have h : ∀ b, bigB (lowB b) = bigB b := byte_all (by decide +kernel)
  unfold canonOf
  rw [List.map_map]
  exact List.map_congr_left fun b _ => h b

theorem nameCase_long (w : World) (a : ByteArray) (hl : 100 < a.size) :
    Calls Tryd.prog 6 #[.string a] w fun e w' => e = .returned (.bool true) ∧ Below w.heap.size w w' := by
  have h1 : (100 : Int) < (a.size : Int) := by omega
  clear hl
  go_enter Tryd.func6, Tryd.ntmps6
  go_wp2
  go_ret
  exact ⟨rfl, Below.refl _ _⟩

set_option maxHeartbeats 2000000 in
theorem nameCase_short (w : World) (hg : Glob w) (s : ByteArray) (hl : ¬ 100 < s.size) :
    Calls Tryd.prog 6 #[.string s] w fun e w' => e = .returned (.bool true) ∧ Below w.heap.size w w' := by
  have h1 : ¬ (100 : Int) < (s.size : Int) := by omega
  have hsl : s.data.toList.length = s.size := rfl
  have HG := Lib.hid hg
  clear hg
  go_enter Tryd.func6, Tryd.ntmps6
  go_wp2_with (refine wpList_bytes _ rfl (.tmp 9) rfl s rfl ?_; intro cap w1 hB1 hb1 hs1)
  go_loopg [4] s.size (fun gg s4 wr => ∃ i : Nat, i ≤ s.size ∧ s.size - i ≤ gg ∧ s4 = .int .i64 i ∧ Aside (BytesAt wr w.heap.size ((s.data.toList.take i).map lowB ++ s.data.toList.drop i)) ∧ Aside (Below w.heap.size w wr))
  case atStart => exact ⟨0, by omega, by omega, rfl, by show BytesAt w1 w.heap.size ((s.data.toList.take 0).map lowB ++ s.data.toList.drop 0); simpa using hB1, hb1⟩
  case round =>
    obtain ⟨i, hi, hgg, rfl, HA, HB⟩ := hrel
    by_cases hlt : i < s.size
    · have hltz : (i : Int) < (s.size : Int) := by omega
      have hlen : ((s.data.toList.take i).map lowB ++ s.data.toList.drop i).length = s.size := by simp; omega
      have hget : (((s.data.toList.take i).map lowB ++ s.data.toList.drop i)[i]'(by rw [hlen]; exact hlt)) = s[i]'hlt := by
        rw [List.getElem_append_right (by simp; omega)]
        have e : s.data.toList[i]'hlt = s[i]'hlt := rfl
        rw [← e, List.getElem_drop]
        congr 1
        simp
        omega
      have c0 := HA.out.cell (j := i) (by rw [hlen]; exact hlt)
      have f0 := HA.out.frozen (j := i) (by rw [hlen]; exact hlt)
      rw [hget] at c0
      obtain ⟨y, hy⟩ : ∃ y, s[i]'hlt = y := ⟨_, rfl⟩
      rw [hy] at c0
      have hy8 : (y.toNat : Int) < 256 := by have := y.toNat_lt; omega
      have hstep : (s.data.toList.take (i + 1)).map lowB ++ s.data.toList.drop (i + 1) = ((s.data.toList.take i).map lowB ++ s.data.toList.drop i).set i (lowB y) := by
        rw [take_next s i hlt, hy]
        have hd : s.data.toList.drop i = s[i]'hlt :: s.data.toList.drop (i + 1) := by
          have e : s.data.toList[i]'hlt = s[i]'hlt := rfl
          rw [← e]
          exact List.drop_eq_getElem_cons hlt
        have hlc : ((s.data.toList.take i).map lowB).length = i := by simp; omega
        rw [hd, List.set_append_right _ _ (by omega), hlc, Nat.sub_self]
        simp
      have HST := Lib.hid hstep
      have hs0 : lowB y = y → ((s.data.toList.take i).map lowB ++ s.data.toList.drop i).set i (lowB y) = (s.data.toList.take i).map lowB ++ s.data.toList.drop i := fun hb => by
        rw [hb, ← hy, ← hget]
        exact List.set_getElem_self _
      have HS0 := Lib.hid hs0
      clear hstep hs0 hget hlen
      by_cases q1 : (65 : Int) ≤ (y.toNat : Int)
      · by_cases q2 : (y.toNat : Int) ≤ 90
        · have hval : (y.toNat : Int) + 32 = ((lowB y).toNat : Int) := by
            unfold lowB
            rw [if_pos ⟨by omega, by omega⟩, UInt8.toNat_add]
            have : (32 : UInt8).toNat = 32 := rfl
            omega
          have HV := Lib.hid hval
          clear hval
          go_wp2
          go_roundg (s.size - (i + 1))
          case measure => omega
          case rel =>
            refine ⟨i + 1, by omega, by omega, by go_num, ?_, HB.out.setCell (Nat.le_refl _) _⟩
            rw [HST.out, HV.out]
            exact HA.out.set (by simp; omega) (lowB y)
        · have hbig : lowB y = y := by unfold lowB; rw [if_neg (by omega)]
          have hsame := HS0.out hbig
          have HSM := Lib.hid hsame
          clear hbig hsame
          go_wp2
          go_roundg (s.size - (i + 1))
          case measure => omega
          case rel => exact ⟨i + 1, by omega, by omega, by go_num, by rw [HST.out, HSM.out]; exact HA.out, HB.out⟩
      · have hbig : lowB y = y := by unfold lowB; rw [if_neg (by omega)]
        have hsame := HS0.out hbig
        have HSM := Lib.hid hsame
        clear hbig hsame
        go_wp2
        go_roundg (s.size - (i + 1))
        case measure => omega
        case rel => exact ⟨i + 1, by omega, by omega, by go_num, by rw [HST.out, HSM.out]; exact HA.out, HB.out⟩
    · have hltz : ¬ (i : Int) < (s.size : Int) := by omega
      have hi' : i = s.size := by omega
      subst hi'
      have hA : BytesAt wr w.heap.size (s.data.toList.map lowB) := by
        have h := HA.out
        have e1 : s.data.toList.take s.size = s.data.toList := List.take_of_length_le (Nat.le_refl s.data.toList.length)
        have e2 : s.data.toList.drop s.size = [] := List.drop_of_length_le (Nat.le_refl s.data.toList.length)
        rw [e1, e2, List.append_nil] at h
        exact h
      have acc := HB.out
      obtain ⟨c, hc⟩ : ∃ c : ByteArray, (⟨(canonOf s.data.toList).toArray⟩ : ByteArray) = c := ⟨_, rfl⟩
      obtain ⟨d, hd⟩ : ∃ d : ByteArray, (⟨(s.data.toList.map lowB).toArray⟩ : ByteArray) = d := ⟨_, rfl⟩
      have hcd : c.data.toList = canonOf s.data.toList := by rw [← hc]
      have hdd : d.data.toList = s.data.toList.map lowB := by rw [← hd]
      have hcs : c.size = s.size := by
        have e : c.data.toList.length = c.size := rfl
        rw [hcd] at e
        simpa [canonOf] using e.symm
      have hds : d.size = s.size := by
        have e : d.data.toList.length = d.size := rfl
        rw [hdd] at e
        simpa using e.symm
      have hcc : (⟨(canonOf c.data.toList).toArray⟩ : ByteArray) = c := by rw [hcd, big_big, hc]
      have hdc : (⟨(canonOf d.data.toList).toArray⟩ : ByteArray) = c := by rw [hdd, big_low, hc]
      have ss : s.size < 90000 := by omega
      have sc : c.size < 90000 := by omega
      have sd : d.size < 90000 := by omega
      have hcsz : ((c.size : Int) == (s.size : Int)) = true := by rw [hcs]; simp
      clear hcd hdd hcs hds
      go_wp2_with (first
        | (go_at_call 18; refine (canon_any _ _ (by assumption)).mono ?_; rintro e w2 ⟨rfl, hb⟩; (first | rw [hc] | rw [hcc] | rw [hdc]); replace hA := hA.below hb; replace acc := acc.trans (hb.mono acc.size); clear hb; have hback := run_back hA cap s.size (by simp); rw [hd] at hback)
        | (go_at_call 14; refine (known_any _ (HG.out.below acc)).mono ?_; rintro e w2 ⟨rfl, hb⟩; replace acc := acc.trans (hb.mono acc.size); clear hb))
      go_ret
      exact ⟨rfl, acc⟩

theorem nameCase_walk (a : ByteArray) (ha : a.size ≤ 140737488351232) (w : World) (hg : Glob w) :
    Calls Tryd.prog 6 #[.string a] w fun e w' => e = .returned (.bool true) ∧ Below w.heap.size w w' := by
  by_cases hl : 100 < a.size
  · exact nameCase_long w a hl
  · exact nameCase_short w hg a hl
end Go.Proofs.YtnifihnlmanpkaaDoor
