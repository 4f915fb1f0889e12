/-
  transit.short.
-/
import Derived.Test.YtjbdegcmolimoaaDoorTrLaw
import Derived.Test.YtjbdegcmolimoaaDoorSmall
set_option linter.unusedVariables false
set_option linter.unusedSimpArgs false
namespace Go.Proofs.YtjbdegcmolimoaaDoor
open Go Go.RowKit Go.Lib Go.Shelf

theorem trimSuffix_cat (q p : Str) : Lib.trimSuffix (q ++ p) p = q := by
  unfold Lib.trimSuffix Lib.hasSuffix
  rw [if_pos (by simp)]
  simp
theorem trimPrefix_cat (q p : Str) : Lib.trimPrefix (p ++ q) p = q := by
  unfold Lib.trimPrefix Lib.hasPrefix
  rw [if_pos (by simp)]
  simp
theorem back_text (r : ByteArray) : (⟨r.data.toList.toArray⟩ : ByteArray) = r := rfl

theorem short_any (w : World) (r p : ByteArray) (hg : Glob w) (sr : r.size < 90000) (sp : p.size < 90000) :
    Calls Tryd.prog 37 #[.string r, .string p] w fun e w' => e = .returned (.string ⟨(shortOf r.data.toList p.data.toList).toArray⟩) ∧ Below w.heap.size w w' := by
  have HG := Lib.hid hg
  clear hg
  have acc : Below w.heap.size w w := Below.refl _ _
  cases hu : underOf r.data.toList p.data.toList with
  | true =>
    by_cases hk : kindOf r.data.toList = 1
    · obtain ⟨q, _, e, es⟩ := short_under1 hu hk
      have ht : Lib.trimSuffix r.data.toList p.data.toList = shortOf r.data.toList p.data.toList := by
        rw [es]
        conv => lhs; rw [e, show q ++ 46 :: p.data.toList = (q ++ [46]) ++ p.data.toList by simp]
        exact trimSuffix_cat _ _
      clear e es
      generalize shortOf r.data.toList p.data.toList = R at *
      go_enter Tryd.func37, Tryd.ntmps37
      go_wp2_with (first
        | (go_at_call 48; refine (under_any _ _ _ (HG.out.below acc) (by assumption) (by assumption)).mono ?_; rintro e w2 ⟨rfl, hb⟩; rw [hu]; replace acc := acc.trans (hb.mono acc.size); clear hb)
        | (go_at_call 42; refine (kind_any _ _ (HG.out.below acc) (by assumption)).mono ?_; rintro e w2 ⟨rfl, hb⟩; rw [hk]; replace acc := acc.trans (hb.mono acc.size); clear hb)
        | (go_at_call 49; refine (Tryd.strings_TrimSuffix _ _ _ (by omega)).mono ?_; rintro e w2 ⟨rfl, rfl⟩; rw [ht]))
      go_ret
      exact ⟨rfl, acc⟩
    · have hk2 : kindOf r.data.toList = 2 := by
        rcases under_shape hu with ⟨h, _⟩ | ⟨h, _⟩
        · exact absurd h hk
        · exact h
      obtain ⟨q, _, e, es⟩ := short_under2 hu hk2
      have ht : Lib.trimPrefix r.data.toList p.data.toList = shortOf r.data.toList p.data.toList := by
        rw [es]
        conv => lhs; rw [e]
        exact trimPrefix_cat _ _
      clear e es hk
      generalize shortOf r.data.toList p.data.toList = R at *
      go_enter Tryd.func37, Tryd.ntmps37
      go_wp2_with (first
        | (go_at_call 48; refine (under_any _ _ _ (HG.out.below acc) (by assumption) (by assumption)).mono ?_; rintro e w2 ⟨rfl, hb⟩; rw [hu]; replace acc := acc.trans (hb.mono acc.size); clear hb)
        | (go_at_call 42; refine (kind_any _ _ (HG.out.below acc) (by assumption)).mono ?_; rintro e w2 ⟨rfl, hb⟩; rw [hk2]; replace acc := acc.trans (hb.mono acc.size); clear hb)
        | (go_at_call 50; refine (Tryd.strings_TrimPrefix _ _ _).mono ?_; rintro e w2 ⟨rfl, rfl⟩; rw [ht]))
      go_ret
      exact ⟨rfl, acc⟩
  | false =>
    by_cases hk : kindOf r.data.toList = 2
    · have hs : (⟨(shortOf r.data.toList p.data.toList).toArray⟩ : ByteArray) = (⟨#[32]⟩ : ByteArray) ++ r := by
        unfold shortOf
        rw [if_neg (by rw [hu]; simp), if_pos hk, cat_eq]
        rfl
      rw [hs]
      clear hs
      go_enter Tryd.func37, Tryd.ntmps37
      go_wp2_with (first
        | (go_at_call 48; refine (under_any _ _ _ (HG.out.below acc) (by assumption) (by assumption)).mono ?_; rintro e w2 ⟨rfl, hb⟩; rw [hu]; replace acc := acc.trans (hb.mono acc.size); clear hb)
        | (go_at_call 42; refine (kind_any _ _ (HG.out.below acc) (by assumption)).mono ?_; rintro e w2 ⟨rfl, hb⟩; rw [hk]; replace acc := acc.trans (hb.mono acc.size); clear hb))
      go_ret
      exact ⟨rfl, acc⟩
    · have hs : (⟨(shortOf r.data.toList p.data.toList).toArray⟩ : ByteArray) = r := by
        unfold shortOf
        rw [if_neg (by rw [hu]; simp), if_neg hk]
      rw [hs]
      clear hs
      obtain ⟨K, hK⟩ : ∃ K, K = kindOf r.data.toList := ⟨_, rfl⟩
      rw [← hK] at hk
      have hkz : (K : Int) ≠ 2 := by omega
      clear hk
      go_enter Tryd.func37, Tryd.ntmps37
      go_wp2_with (first
        | (go_at_call 48; refine (under_any _ _ _ (HG.out.below acc) (by assumption) (by assumption)).mono ?_; rintro e w2 ⟨rfl, hb⟩; rw [hu]; replace acc := acc.trans (hb.mono acc.size); clear hb)
        | (go_at_call 42; refine (kind_any _ _ (HG.out.below acc) (by assumption)).mono ?_; rintro e w2 ⟨rfl, hb⟩; rw [← hK]; replace acc := acc.trans (hb.mono acc.size); clear hb))
      go_ret
      exact ⟨rfl, acc⟩
end Go.Proofs.YtjbdegcmolimoaaDoor
