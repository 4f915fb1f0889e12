/-
  NamePrincs: the walk of the law.
-/
import Derived.Test.YtnifihnlmanpkaaDoorUnders
set_option linter.unusedVariables false
set_option linter.unusedSimpArgs false
namespace Go.Proofs.YtnifihnlmanpkaaDoor
open Go Go.RowKit Go.Lib Go.Shelf

def smTo (s : ByteArray) (i : Nat) : Bool := decide (1 ≤ s.size) && (decide (s.size ≤ 8) && (s.data.toList.take i).all smB)

theorem smTo_end (s : ByteArray) : smTo s s.size = word smB s.data.toList := by
  have e : s.data.toList.length = s.size := rfl
  unfold smTo word
  rw [e, List.take_of_length_le (by rw [e]; exact Nat.le_refl _)]
theorem smTo_next (s : ByteArray) (i : Nat) (h : i < s.size) : smTo s (i + 1) = (smTo s i && smB (s[i]'h)) := by
  unfold smTo
  rw [take_next s i h, List.all_append]
  simp [Bool.and_assoc]
theorem smTo_zero (s : ByteArray) : smTo s 0 = (decide (1 ≤ s.size) && decide (s.size ≤ 8)) := by simp [smTo]

theorem sm_byte {b : UInt8} : smB b = true ↔ (97 ≤ (b.toNat : Int) ∧ (b.toNat : Int) ≤ 122) ∨ (48 ≤ (b.toNat : Int) ∧ (b.toNat : Int) ≤ 57) := by
  simp only [smB, Bool.or_eq_true, Bool.and_eq_true, decide_eq_true_eq]
  omega
theorem sm_byte_false {b : UInt8} (h : ¬ ((97 ≤ (b.toNat : Int) ∧ (b.toNat : Int) ≤ 122) ∨ (48 ≤ (b.toNat : Int) ∧ (b.toNat : Int) ≤ 57))) : smB b = false := by
  cases e : smB b
  · rfl
  · exact absurd (sm_byte.1 e) h

theorem isR_edu : isR [69, 68, 85] = true := by decide +kernel

theorem target_krb (r : Str) : targetOf (krb ++ r) = if isR r = true then (r, true) else ([], false) := by
  unfold targetOf
  have h1 : Lib.hasPrefix (krb ++ r) krb = true := by simp [Lib.hasPrefix]
  have h2 : (krb ++ r).drop 7 = r := rfl
  rw [h1, h2]
  simp
theorem princ_krb (r : Str) : princOf [69, 68, 85] (krb ++ r) = isR r := by
  have hw : word smB (krb ++ r) = false := by
    have h47 : smB 47 = false := by decide
    have : (krb ++ r).all smB = false := by
      rw [List.all_eq_false]
      exact ⟨47, by simp [krb], by rw [h47]; decide⟩
    simp [word, this]
  unfold princOf
  rw [isR_edu, target_krb, hw]
  cases isR r <;> simp
theorem target_back {n : Str} (h : (targetOf n).2 = true) : krb ++ (targetOf n).1 = n := by
  unfold targetOf at h ⊢
  split
  · rename_i hc
    have h1 := hc.1
    simp only [Lib.hasPrefix] at h1
    obtain ⟨t, ht⟩ := List.isPrefixOf_iff_prefix.1 h1
    rw [← ht]
    rfl
  · rename_i hc
    rw [if_neg hc] at h
    cases h

theorem namePrincs_long (w : World) (n r : ByteArray) (hl : 60 < n.size ∨ 60 < r.size) :
    Calls Tryd.prog 9 #[.string n, .string r] w fun e w' => e = .returned (.bool true) ∧ Below w.heap.size w w' := by
  by_cases h : 60 < n.size
  · have h1 : (60 : Int) < (n.size : Int) := by omega
    clear hl h
    go_enter Tryd.func9, Tryd.ntmps9
    go_wp2
    go_ret
    exact ⟨rfl, Below.refl _ _⟩
  · have h1 : ¬ (60 : Int) < (n.size : Int) := by omega
    have h2 : (60 : Int) < (r.size : Int) := by omega
    clear hl h
    go_enter Tryd.func9, Tryd.ntmps9
    go_wp2
    go_ret
    exact ⟨rfl, Below.refl _ _⟩

theorem edu_data : (⟨#[69, 68, 85]⟩ : ByteArray).data.toList = [69, 68, 85] := rfl

theorem princ_edu (w : World) (n : ByteArray) (hg : Glob w) (hn : n.size < 90000) :
    Calls Tryd.prog 24 #[.agg #[.string ⟨#[69, 68, 85]⟩, .string n]] w fun e w' => e = .returned (.bool ((targetOf n.data.toList).2 || word smB n.data.toList)) ∧ Below w.heap.size w w' := by
  have h := princ_any w ⟨#[69, 68, 85]⟩ n hg (by decide) hn
  rw [edu_data] at h
  unfold princOf at h
  rw [isR_edu, Bool.true_and] at h
  exact h
theorem princ_edu_krb (w : World) (r : ByteArray) (hg : Glob w) (hr : r.size < 80000) :
    Calls Tryd.prog 24 #[.agg #[.string ⟨#[69, 68, 85]⟩, .string ⟨(krb ++ r.data.toList).toArray⟩]] w fun e w' => e = .returned (.bool (isR r.data.toList)) ∧ Below w.heap.size w w' := by
  have h := princ_any w ⟨#[69, 68, 85]⟩ ⟨(krb ++ r.data.toList).toArray⟩ hg (by decide) (by
    have e : r.data.toList.length = r.size := rfl
    show (krb ++ r.data.toList).toArray.size < _
    simp [krb]; omega)
  rw [edu_data, show (⟨(krb ++ r.data.toList).toArray⟩ : ByteArray).data.toList = krb ++ r.data.toList from rfl, princ_krb] at h
  exact h

set_option maxHeartbeats 4000000 in
theorem namePrincs_short (w : World) (hg : Glob w) (n r : ByteArray) (hn : ¬ 60 < n.size) (hr : ¬ 60 < r.size) :
    Calls Tryd.prog 9 #[.string n, .string r] w fun e w' => e = .returned (.bool true) ∧ Below w.heap.size w w' := by
  have h1 : ¬ (60 : Int) < (n.size : Int) := by omega
  have h2 : ¬ (60 : Int) < (r.size : Int) := by omega
  have sn : n.size < 90000 := by omega
  have sr : r.size < 80000 := by omega
  have sr9 : r.size < 90000 := by omega
  have HG := Lib.hid hg
  have HZ := Lib.hid (smTo_zero n)
  have HE := Lib.hid (smTo_end n)
  have hback : (targetOf n.data.toList).2 = true → (⟨(krb ++ (targetOf n.data.toList).1).toArray⟩ : ByteArray) = n := fun h => by rw [target_back h]
  have hts : (targetOf n.data.toList).1.length ≤ 60 := by
    have e : n.data.toList.length = n.size := rfl
    unfold targetOf
    split
    · simp; omega
    · simp
  have HBK := Lib.hid hback
  have HTS := Lib.hid hts
  clear hg hn hr hback hts
  have acc : Below w.heap.size w w := Below.refl _ _
  have hstart : ∃ b, b = smTo n 0 ∧ (b = true → 1 ≤ (n.size : Int) ∧ (n.size : Int) ≤ 8) ∧ (b = false → (n.size : Int) < 1 ∨ (8 : Int) < (n.size : Int)) := ⟨_, rfl, by
    rw [smTo_zero]; intro h; simp at h; omega, by
    rw [smTo_zero]; intro h; simp at h; omega⟩
  obtain ⟨b0, hb0, hb1, hb2⟩ := hstart
  have HB0 := Lib.hid hb0
  clear hb0
  go_enter Tryd.func9, Tryd.ntmps9
  go_upto_region 3 with (fail)
  go_cut [5] from 17 to 24 (fun v5 wx => v5 = .bool b0 ∧ wx = w)
  case first =>
    cases b0 with
    | true =>
      obtain ⟨k1, k2⟩ := hb1 rfl
      go_wp2
      go_meet
      exact ⟨rfl, rfl⟩
    | false =>
      by_cases k1 : (n.size : Int) < 1
      · have k1' : ¬ 1 ≤ (n.size : Int) := by omega
        go_wp2
        go_meet
        exact ⟨rfl, rfl⟩
      · have k1' : 1 ≤ (n.size : Int) := by omega
        have k2 : ¬ (n.size : Int) ≤ 8 := by have := hb2 rfl; omega
        go_wp2
        go_meet
        exact ⟨rfl, rfl⟩
  case rest =>
    obtain ⟨rfl, hwc⟩ := hcut
    replace acc : Below w.heap.size w wc := by rw [hwc]; exact acc
    clear hwc hb1 hb2
    go_wp2_with fail
    go_loopg [5, 6] n.size (fun gg s5 s6 wr => ∃ (i : Nat) (b : Bool), i ≤ n.size ∧ n.size - i ≤ gg ∧ s6 = .int .i64 i ∧ s5 = .bool b ∧ Aside (b = smTo n i) ∧ Aside (wr = wc))
    case atStart => exact ⟨0, b0, by omega, by omega, rfl, rfl, HB0.out, rfl⟩
    case round =>
      obtain ⟨i, b, hi, hgg, rfl, rfl, HB, HQ⟩ := hrel
      have hq := HQ.out
      subst hq
      clear HQ
      by_cases hlt : i < n.size
      · have hltz : (i : Int) < (n.size : Int) := by omega
        have hnext := smTo_next n i hlt
        rw [← HB.out] at hnext
        cases b with
        | false =>
          rw [Bool.false_and] at hnext
          have HNX := Lib.hid hnext
          clear hnext
          go_wp2
          go_roundg (n.size - (i + 1))
          case measure => omega
          case rel => exact ⟨i + 1, false, by omega, by omega, by go_num, rfl, HNX.out.symm, rfl⟩
        | true =>
          rw [Bool.true_and] at hnext
          obtain ⟨y, hy⟩ : ∃ y : Int, ((n[i]'hlt).toNat : Int) = y := ⟨_, rfl⟩
          have hsm : ∀ v : Bool, (v = true ↔ (97 ≤ y ∧ y ≤ 122) ∨ (48 ≤ y ∧ y ≤ 57)) → v = smTo n (i + 1) := fun v hv => by
            rw [hnext, Bool.eq_iff_iff, hv, sm_byte, hy]
          have HSM := Lib.hid hsm
          clear hsm hnext
          by_cases q1 : (97 : Int) ≤ y
          · by_cases q2 : y ≤ (122 : Int)
            · go_wp2
              go_roundg (n.size - (i + 1))
              case measure => omega
              case rel => exact ⟨i + 1, true, by omega, by omega, by go_num, rfl, HSM.out true (by simp; omega), rfl⟩
            · have q3 : (48 : Int) ≤ y := by omega
              have q4 : ¬ y ≤ (57 : Int) := by omega
              go_wp2
              go_roundg (n.size - (i + 1))
              case measure => omega
              case rel => exact ⟨i + 1, false, by omega, by omega, by go_num, rfl, HSM.out false (by simp; omega), rfl⟩
          · by_cases q3 : (48 : Int) ≤ y
            · by_cases q4 : y ≤ (57 : Int)
              · go_wp2
                go_roundg (n.size - (i + 1))
                case measure => omega
                case rel => exact ⟨i + 1, true, by omega, by omega, by go_num, rfl, HSM.out true (by simp; omega), rfl⟩
              · go_wp2
                go_roundg (n.size - (i + 1))
                case measure => omega
                case rel => exact ⟨i + 1, false, by omega, by omega, by go_num, rfl, HSM.out false (by simp; omega), rfl⟩
            · go_wp2
              go_roundg (n.size - (i + 1))
              case measure => omega
              case rel => exact ⟨i + 1, false, by omega, by omega, by go_num, rfl, HSM.out false (by simp; omega), rfl⟩
      · have hltz : ¬ (i : Int) < (n.size : Int) := by omega
        have hi' : i = n.size := by omega
        have hsm : word smB n.data.toList = b := by rw [HB.out, hi', HE.out]
        obtain ⟨tb, htb⟩ : ∃ tb : ByteArray, (⟨(targetOf n.data.toList).1.toArray⟩ : ByteArray) = tb := ⟨_, rfl⟩
        have htd : tb.data.toList = (targetOf n.data.toList).1 := by rw [← htb]
        have hts : tb.size ≤ 60 := by have e : tb.data.toList.length = tb.size := rfl; rw [htd] at e; have := HTS.out; omega
        have tok : True := trivial
        have tok2 : True := trivial
        obtain ⟨ok, hok⟩ : ∃ ok, (targetOf n.data.toList).2 = ok := ⟨_, rfl⟩
        obtain ⟨y, hy⟩ : ∃ y, isR r.data.toList = y := ⟨_, rfl⟩
        cases ok with
        | true =>
          have hkb : (⟨(krb ++ tb.data.toList).toArray⟩ : ByteArray) = n := by rw [htd]; exact HBK.out hok
          clear hi' htd
          cases b <;> cases y <;> (
            go_wp2_with (first
          | (go_at_call 21; refine (target_any _ n (HG.out.below acc) sn).mono ?_; rintro e w2 ⟨rfl, hb⟩; rw [hok, htb]; replace acc := acc.trans (hb.mono acc.size); clear hb)
          | (go_at_call 24; have _t := tok; refine (princ_edu _ n (HG.out.below acc) sn).mono ?_; rintro e w2 ⟨rfl, hb⟩; rw [hok, hsm]; replace acc := acc.trans (hb.mono acc.size); clear hb tok)
          | (go_at_call 22; have _t := tok2; refine (krbtgt_any _ tb (by omega)).mono ?_; rintro e w2 ⟨rfl, rfl⟩; rw [hkb]; clear tok2)
          | (go_at_call 22; refine (krbtgt_any _ r sr9).mono ?_; rintro e w2 ⟨rfl, rfl⟩)
          | (go_at_call 24; refine (princ_edu_krb _ r (HG.out.below acc) sr).mono ?_; rintro e w2 ⟨rfl, hb⟩; rw [hy]; replace acc := acc.trans (hb.mono acc.size); clear hb)
          | (go_at_call 12; refine (refis_any _ r sr9).mono ?_; rintro e w2 ⟨rfl, hb⟩; rw [hy]; replace acc := acc.trans (hb.mono acc.size); clear hb)
          | (go_at_call 14; refine (known_any _ (HG.out.below acc)).mono ?_; rintro e w2 ⟨rfl, hb⟩; replace acc := acc.trans (hb.mono acc.size); clear hb))
            go_ret
            exact ⟨rfl, acc⟩)
        | false =>
          have hkb : True := trivial
          clear hi' htd
          cases b <;> cases y <;> (
            clear tok2
            go_wp2_with (first
          | (go_at_call 21; refine (target_any _ n (HG.out.below acc) sn).mono ?_; rintro e w2 ⟨rfl, hb⟩; rw [hok, htb]; replace acc := acc.trans (hb.mono acc.size); clear hb)
          | (go_at_call 24; have _t := tok; refine (princ_edu _ n (HG.out.below acc) sn).mono ?_; rintro e w2 ⟨rfl, hb⟩; rw [hok, hsm]; replace acc := acc.trans (hb.mono acc.size); clear hb tok)
          | (go_at_call 22; have _t := tok2; refine (krbtgt_any _ tb (by omega)).mono ?_; rintro e w2 ⟨rfl, rfl⟩; clear tok2)
          | (go_at_call 22; refine (krbtgt_any _ r sr9).mono ?_; rintro e w2 ⟨rfl, rfl⟩)
          | (go_at_call 24; refine (princ_edu_krb _ r (HG.out.below acc) sr).mono ?_; rintro e w2 ⟨rfl, hb⟩; rw [hy]; replace acc := acc.trans (hb.mono acc.size); clear hb)
          | (go_at_call 12; refine (refis_any _ r sr9).mono ?_; rintro e w2 ⟨rfl, hb⟩; rw [hy]; replace acc := acc.trans (hb.mono acc.size); clear hb)
          | (go_at_call 14; refine (known_any _ (HG.out.below acc)).mono ?_; rintro e w2 ⟨rfl, hb⟩; replace acc := acc.trans (hb.mono acc.size); clear hb))
            go_ret
            exact ⟨rfl, acc⟩)

theorem namePrincs_walk (n r : ByteArray) (ha : n.size ≤ 140737488351232) (hb : r.size ≤ 140737488351232) (w : World) (hg : Glob w) :
    Calls Tryd.prog 9 #[.string n, .string r] w fun e w' => e = .returned (.bool true) ∧ Below w.heap.size w w' := by
  by_cases hn : 60 < n.size
  · exact namePrincs_long w n r (.inl hn)
  · by_cases hr : 60 < r.size
    · exact namePrincs_long w n r (.inr hr)
    · exact namePrincs_short w hg n r hn hr
end Go.Proofs.YtnifihnlmanpkaaDoor
