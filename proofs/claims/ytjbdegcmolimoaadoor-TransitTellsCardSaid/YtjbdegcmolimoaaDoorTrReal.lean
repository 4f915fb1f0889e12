/-
  transit.realm.
-/
import Derived.Test.YtjbdegcmolimoaaDoorTrComp
set_option linter.unusedVariables false
set_option linter.unusedSimpArgs false
namespace Go.Proofs.YtjbdegcmolimoaaDoor
open Go Go.RowKit Go.Lib Go.Shelf

theorem suffix_one (s : Str) (c : UInt8) : Lib.hasSuffix s [c] = decide (s.getLast? = some c) := by
  unfold Lib.hasSuffix
  rw [Bool.eq_iff_iff, List.isSuffixOf_iff_suffix, decide_eq_true_eq]
  constructor
  · rintro ⟨t, rfl⟩
    simp
  · intro h
    rw [List.getLast?_eq_some_iff] at h
    obtain ⟨t, rfl⟩ := h
    exact ⟨t, rfl⟩
theorem prefix_one (s : Str) (c : UInt8) : Lib.hasPrefix s [c] = decide (s.head? = some c) := by
  unfold Lib.hasPrefix
  cases s with
  | nil => simp
  | cons b t =>
    show (c == b && ([] : Str).isPrefixOf t) = _
    simp only [List.isPrefixOf, Bool.and_true, List.head?_cons, Option.some.injEq]
    rw [Bool.eq_iff_iff, beq_iff_eq, decide_eq_true_eq]
    exact eq_comm

def SubPost (w w' : World) (s p : Str) (e : Ending) : Prop := ∃ t : ByteArray, e = .returned (.tuple #[.string t, .bool (subOf s p).isSome]) ∧ (∀ r, subOf s p = some r → t.data.toList = r) ∧ Below w.heap.size w w'

theorem sub_none {s p : Str} (h : subRaw s p = none) : subOf s p = none := by unfold subOf; rw [h]
theorem sub_some {s p r : Str} (h : subRaw s p = some r) : subOf s p = if isR r = true then some r else none := by unfold subOf; rw [h]

theorem sub_end {w w' : World} {s p r : Str} {t : ByteArray} {b : Bool} (h : subRaw s p = some r) (ht : t.data.toList = r) (hi : isR r = b) (hb : Below w.heap.size w w') : SubPost w w' s p (.returned (.tuple #[.string t, .bool b])) := by
  refine ⟨t, ?_, ?_, hb⟩
  · rw [sub_some h, hi]
    cases b <;> rfl
  · intro r' hr'
    rw [sub_some h] at hr'
    split at hr'
    · simp only [Option.some.injEq] at hr'
      rw [ht, hr']
    · cases hr'
theorem sub_end0 {w w' : World} {s p : Str} {t : ByteArray} (h : subRaw s p = none) (hb : Below w.heap.size w w') : SubPost w w' s p (.returned (.tuple #[.string t, .bool false])) :=
  ⟨t, by rw [sub_none h]; rfl, (fun r hr => by rw [sub_none h] at hr; cases hr), hb⟩

theorem cat_data (a b : ByteArray) : (a ++ b).data.toList = a.data.toList ++ b.data.toList := by rw [cat_eq]
theorem cat_size (a b : ByteArray) : (a ++ b).size = a.size + b.size := by
  have h := congrArg List.length (cat_data a b)
  simp only [List.length_append] at h
  exact h
theorem empty_iff (p : ByteArray) : p.toList = [] ↔ p.data.toList = [] := by rw [toList_data]

set_option maxHeartbeats 2000000 in
theorem trealm_any (w : World) (hg : Glob w) (s p : ByteArray) (ss : s.size < 80000) (sp : p.size < 9000) :
    Calls Tryd.prog 30 #[.string s, .string p] w fun e w' => SubPost w w' s.data.toList p.data.toList e := by
  have acc : Below w.heap.size w w := Below.refl _ _
  have HG := Lib.hid hg
  clear hg
  have hq1 := suffix_one s.data.toList 46
  have hq2 := prefix_one s.data.toList 47
  have hq3 := prefix_one s.data.toList 32
  by_cases h1 : s.data.toList.getLast? = some 46
  · rw [decide_eq_true h1] at hq1
    by_cases hp : p.data.toList = []
    · have hraw : subRaw s.data.toList p.data.toList = none := by unfold subRaw; rw [if_pos h1, if_pos hp]
      have HRW := Lib.hid hraw
      have hp1 := (empty_iff p).2 hp
      clear h1 hraw hp hq2 hq3
      go_enter Tryd.func30, Tryd.ntmps30
      go_wp2_with (go_at_call 44; refine (Tryd.strings_HasSuffix s _ _ (by omega)).mono ?_; rintro e w2 ⟨rfl, rfl⟩)
      go_ret2
      exact sub_end0 HRW.out acc
    · have hraw : subRaw s.data.toList p.data.toList = some (s.data.toList ++ p.data.toList) := by unfold subRaw; rw [if_pos h1, if_neg hp]
      have HRW := Lib.hid hraw
      have hp1 : ¬ p.toList = [] := fun e => hp ((empty_iff p).1 e)
      have hp2 : p.toList.isEmpty = false := by simpa using hp1
      obtain ⟨b, hb⟩ : ∃ b, isR (s.data.toList ++ p.data.toList) = b := ⟨_, rfl⟩
      have hi : isR (s ++ p).data.toList = b := by rw [cat_data]; exact hb
      have HB := Lib.hid hb
      have hsz : (s ++ p).size < 90000 := by rw [cat_size]; omega
      clear h1 hraw hp hq2 hq3 hb
      go_enter Tryd.func30, Tryd.ntmps30
      go_wp2_with (first
        | (go_at_call 44; refine (Tryd.strings_HasSuffix s _ _ (by omega)).mono ?_; rintro e w2 ⟨rfl, rfl⟩)
        | (go_at_call 28; refine (is_any _ _ (HG.out.below acc) (by assumption)).mono ?_; rintro e w2 ⟨rfl, hb⟩; rw [hi]; replace acc := acc.trans (hb.mono acc.size); clear hb))
      go_ret2
      exact sub_end HRW.out (cat_data _ _) HB.out acc
  · rw [decide_eq_false h1] at hq1
    by_cases h2 : s.data.toList.head? = some 47
    · rw [decide_eq_true h2] at hq2
      by_cases hk : kindOf p.data.toList = 2
      · have hraw : subRaw s.data.toList p.data.toList = some (p.data.toList ++ s.data.toList) := by unfold subRaw; rw [if_neg h1, if_pos h2, if_pos hk]
        have HRW := Lib.hid hraw
        obtain ⟨b, hb⟩ : ∃ b, isR (p.data.toList ++ s.data.toList) = b := ⟨_, rfl⟩
        have hi : isR (p ++ s).data.toList = b := by rw [cat_data]; exact hb
        have HB := Lib.hid hb
        have hsz : (p ++ s).size < 90000 := by rw [cat_size]; omega
        have hsp : p.size < 90000 := by omega
        clear h1 h2 hraw hq3 hb
        go_enter Tryd.func30, Tryd.ntmps30
        go_wp2_with (first
          | (go_at_call 44; refine (Tryd.strings_HasSuffix s _ _ (by omega)).mono ?_; rintro e w2 ⟨rfl, rfl⟩)
          | (go_at_call 45; refine (Tryd.strings_HasPrefix _ _ _).mono ?_; rintro e w2 ⟨rfl, rfl⟩)
          | (go_at_call 42; refine (kind_any _ _ (HG.out.below acc) (by assumption)).mono ?_; rintro e w2 ⟨rfl, hb⟩; rw [hk]; replace acc := acc.trans (hb.mono acc.size); clear hb)
          | (go_at_call 28; refine (is_any _ _ (HG.out.below acc) (by assumption)).mono ?_; rintro e w2 ⟨rfl, hb⟩; rw [hi]; replace acc := acc.trans (hb.mono acc.size); clear hb))
        go_ret2
        exact sub_end HRW.out (cat_data _ _) HB.out acc
      · have hraw : subRaw s.data.toList p.data.toList = some s.data.toList := by unfold subRaw; rw [if_neg h1, if_pos h2, if_neg hk]
        have HRW := Lib.hid hraw
        obtain ⟨b, hi⟩ : ∃ b, isR s.data.toList = b := ⟨_, rfl⟩
        obtain ⟨K, hK⟩ : ∃ K, kindOf p.data.toList = K := ⟨_, rfl⟩
        rw [hK] at hk
        have hkz : (K : Int) ≠ 2 := by omega
        have hsp : p.size < 90000 := by omega
        have hss : s.size < 90000 := by omega
        clear h1 h2 hraw hq3 hk
        go_enter Tryd.func30, Tryd.ntmps30
        go_wp2_with (first
          | (go_at_call 44; refine (Tryd.strings_HasSuffix s _ _ (by omega)).mono ?_; rintro e w2 ⟨rfl, rfl⟩)
          | (go_at_call 45; refine (Tryd.strings_HasPrefix _ _ _).mono ?_; rintro e w2 ⟨rfl, rfl⟩)
          | (go_at_call 42; refine (kind_any _ _ (HG.out.below acc) (by assumption)).mono ?_; rintro e w2 ⟨rfl, hb⟩; rw [hK]; replace acc := acc.trans (hb.mono acc.size); clear hb)
          | (go_at_call 28; refine (is_any _ _ (HG.out.below acc) (by assumption)).mono ?_; rintro e w2 ⟨rfl, hb⟩; rw [hi]; replace acc := acc.trans (hb.mono acc.size); clear hb))
        go_ret2
        exact sub_end HRW.out rfl hi acc
    · rw [decide_eq_false h2] at hq2
      by_cases h3 : s.data.toList.head? = some 32
      · rw [decide_eq_true h3] at hq3
        have hs1 : 1 ≤ s.size := by
          have e : s.data.toList.length = s.size := rfl
          rw [← e]
          cases h : s.data.toList with
          | nil => rw [h] at h3; cases h3
          | cons b t => simp
        have htl : (s.extract 1 s.size).data.toList = s.data.toList.tail := by rw [Lib.extract_to_end, List.drop_one]
        have hq4 := prefix_one (s.extract 1 s.size).data.toList 47
        have hsz : (s.extract 1 s.size).size < 90000 := by rw [ByteArray.size_extract]; omega
        by_cases h4 : s.data.toList.tail.head? = some 47
        · rw [htl, decide_eq_true h4, ← htl] at hq4
          have hraw : subRaw s.data.toList p.data.toList = some s.data.toList.tail := by unfold subRaw; rw [if_neg h1, if_neg h2, if_pos h3, if_pos h4]
          have HRW := Lib.hid hraw
          have HTL := Lib.hid htl
          obtain ⟨b, hb⟩ : ∃ b, isR s.data.toList.tail = b := ⟨_, rfl⟩
          have hi : isR (s.extract 1 s.size).data.toList = b := by rw [htl]; exact hb
          have HB := Lib.hid hb
          clear h1 h2 h3 h4 hraw hb htl
          go_enter Tryd.func30, Tryd.ntmps30
          go_wp2_with (first
            | (go_at_call 44; refine (Tryd.strings_HasSuffix s _ _ (by omega)).mono ?_; rintro e w2 ⟨rfl, rfl⟩)
            | (go_at_call 45; refine (Tryd.strings_HasPrefix _ _ _).mono ?_; rintro e w2 ⟨rfl, rfl⟩; (first | rw [hq4] | rw [hq3] | rw [hq2]))
            | (go_at_call 28; refine (is_any _ _ (HG.out.below acc) (by assumption)).mono ?_; rintro e w2 ⟨rfl, hb⟩; rw [hi]; replace acc := acc.trans (hb.mono acc.size); clear hb))
          go_ret2
          exact sub_end HRW.out HTL.out HB.out acc
        · rw [htl, decide_eq_false h4, ← htl] at hq4
          have hraw : subRaw s.data.toList p.data.toList = none := by unfold subRaw; rw [if_neg h1, if_neg h2, if_pos h3, if_neg h4]
          have HRW := Lib.hid hraw
          clear h1 h2 h3 h4 hraw htl
          go_enter Tryd.func30, Tryd.ntmps30
          go_wp2_with (first
            | (go_at_call 44; refine (Tryd.strings_HasSuffix s _ _ (by omega)).mono ?_; rintro e w2 ⟨rfl, rfl⟩)
            | (go_at_call 45; refine (Tryd.strings_HasPrefix _ _ _).mono ?_; rintro e w2 ⟨rfl, rfl⟩; (first | rw [hq4] | rw [hq3] | rw [hq2])))
          go_ret2
          exact sub_end0 HRW.out acc
      · rw [decide_eq_false h3] at hq3
        have hraw : subRaw s.data.toList p.data.toList = some s.data.toList := by unfold subRaw; rw [if_neg h1, if_neg h2, if_neg h3]
        have HRW := Lib.hid hraw
        obtain ⟨b, hi⟩ : ∃ b, isR s.data.toList = b := ⟨_, rfl⟩
        have hss : s.size < 90000 := by omega
        clear h1 h2 h3 hraw
        go_enter Tryd.func30, Tryd.ntmps30
        go_wp2_with (first
          | (go_at_call 44; refine (Tryd.strings_HasSuffix s _ _ (by omega)).mono ?_; rintro e w2 ⟨rfl, rfl⟩)
          | (go_at_call 45; refine (Tryd.strings_HasPrefix _ _ _).mono ?_; rintro e w2 ⟨rfl, rfl⟩)
          | (go_at_call 28; refine (is_any _ _ (HG.out.below acc) (by assumption)).mono ?_; rintro e w2 ⟨rfl, hb⟩; rw [hi]; replace acc := acc.trans (hb.mono acc.size); clear hb))
        go_ret2
        exact sub_end HRW.out rfl hi acc
end Go.Proofs.YtjbdegcmolimoaaDoor
