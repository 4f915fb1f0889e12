/-
  NameUp: the walk of the law.
-/
import Derived.Test.YtnifihnlmanpkaaDoorUnders
import Derived.Test.YtnifihnlmanpkaaDoorPath2
set_option linter.unusedVariables false
set_option linter.unusedSimpArgs false
namespace Go.Proofs.YtnifihnlmanpkaaDoor
open Go Go.RowKit Go.Lib Go.Shelf

theorem under_self (a : Str) : underOf a a = false := by
  cases h : underOf a a
  · rfl
  · exact (under_anti a a h h).elim

theorem nameUp_long (w : World) (a : ByteArray) (hl : 100 < a.size) :
    Calls Tryd.prog 10 #[.string a] w fun e w' => e = .returned (.bool true) ∧ Below w.heap.size w w' := by
  have h1 : (100 : Int) < (a.size : Int) := by omega
  clear hl
  go_enter Tryd.func10, Tryd.ntmps10
  go_wp2
  go_ret
  exact ⟨rfl, Below.refl _ _⟩

set_option maxHeartbeats 2000000 in
theorem nameUp_none (w : World) (hg : Glob w) (a : ByteArray) (hl : ¬ 100 < a.size) (hk : kindOf a.data.toList = 0) :
    Calls Tryd.prog 10 #[.string a] w fun e w' => e = .returned (.bool true) ∧ Below w.heap.size w w' := by
  have h1 : ¬ (100 : Int) < (a.size : Int) := by omega
  have sa : a.size < 90000 := by omega
  have hu : upOf a.data.toList = [] := by unfold upOf; rw [if_pos hk]
  have hi : isR a.data.toList = false := by unfold isR; rw [hk]; rfl
  have hs := under_self a.data.toList
  have HG := Lib.hid hg
  clear hg hl hk
  have acc : Below w.heap.size w w := Below.refl _ _
  go_enter Tryd.func10, Tryd.ntmps10
  go_wp2_with (go_at_call 17; refine (up_any _ _ (HG.out.below acc) (by assumption)).mono ?_; rintro e w2 ⟨rfl, hb⟩; replace acc := acc.trans (hb.mono acc.size); clear hb; rw [hu])
  go_loopg [3, 4] 0 (fun gg s3 s4 wr => gg = 0 ∧ s3 = .int .i64 0 ∧ s4 = .string ⟨#[]⟩ ∧ Aside (Below w.heap.size w wr))
  case atStart => exact ⟨rfl, rfl, rfl, acc⟩
  case round =>
    obtain ⟨rfl, rfl, rfl, HB⟩ := hrel
    replace acc := HB.out
    go_wp2_with (first
      | (go_at_call 19; refine (under_any _ _ _ (HG.out.below acc) (by assumption) (by assumption)).mono ?_; rintro e w2 ⟨rfl, hb⟩; replace acc := acc.trans (hb.mono acc.size); clear hb)
      | (go_at_call 12; refine (refis_any _ _ (by assumption)).mono ?_; rintro e w2 ⟨rfl, hb⟩; replace acc := acc.trans (hb.mono acc.size); clear hb)
      | (go_at_call 14; refine (known_any _ (HG.out.below acc)).mono ?_; rintro e w2 ⟨rfl, hb⟩; replace acc := acc.trans (hb.mono acc.size); clear hb))
    go_ret
    exact ⟨rfl, acc⟩

set_option maxHeartbeats 4000000 in
theorem nameUp_some (w : World) (hg : Glob w) (a : ByteArray) (hl : ¬ 100 < a.size) (L : List Str) (K : Nat) (hG : Good L K) (ha : realmOf L K = a.data.toList) :
    Calls Tryd.prog 10 #[.string a] w fun e w' => e = .returned (.bool true) ∧ Below w.heap.size w w' := by
  have h1 : ¬ (100 : Int) < (a.size : Int) := by omega
  have sa : a.size < 90000 := by omega
  have hL1 : 1 ≤ L.length := List.length_pos_iff.2 hG.ne
  have hL4 := hG.few
  have hu : upOf a.data.toList = realmOf (L.take (L.length - 1)) K := by
    rw [← ha, ← anc_all L K]
    exact up_anc hG hL1 (Nat.le_refl _)
  have hi : isR a.data.toList = true := by
    unfold isR
    rw [← ha, kind_realm hG]
    rcases hG.kind with h | h <;> rw [h] <;> rfl
  have hs := under_self a.data.toList
  have hlen : a.data.toList.length = a.size := rfl
  have hstep : ∀ (j : Nat) (r : ByteArray), 1 ≤ j → j < L.length → r.data.toList = realmOf (L.take j) K → (¬ r.toList = []) ∧ underOf a.data.toList r.data.toList = true ∧ underOf r.data.toList a.data.toList = false ∧ r.size < a.size ∧ upOf r.data.toList = realmOf (L.take (j - 1)) K := by
    intro j r hj1 hj2 hr
    have h2 := under_anc hG hj1 hj2
    have h3 := len_anc hG hj1 hj2
    have h4 := up_anc hG hj1 (by omega)
    have h5 := realm_ne (hG.take (j := j) (by omega))
    rw [toList_data, hr, ← ha]
    refine ⟨h5, h2, ?_, ?_, h4⟩
    · cases h : underOf (realmOf (L.take j) K) (realmOf L K)
      · rfl
      · exact (under_anti _ _ h h2).elim
    · have e1 : r.data.toList.length = r.size := rfl
      rw [hr] at e1
      rw [ha, hlen] at h3
      omega
  have HST := Lib.hid hstep
  have HG := Lib.hid hg
  clear hg hl hstep hG ha
  have acc : Below w.heap.size w w := Below.refl _ _
  go_enter Tryd.func10, Tryd.ntmps10
  go_wp2_with (go_at_call 17; refine (up_any _ _ (HG.out.below acc) (by assumption)).mono ?_; rintro e w2 ⟨rfl, hb⟩; replace acc := acc.trans (hb.mono acc.size); clear hb; rw [hu])
  go_loopg [3, 4] L.length (fun gg s3 s4 wr => ∃ (j : Nat) (r : ByteArray), j < L.length ∧ j ≤ gg ∧ s3 = .int .i64 ((L.length - 1 - j : Nat) : Int) ∧ s4 = .string r ∧ Aside (r.data.toList = realmOf (L.take j) K) ∧ Aside (Below w.heap.size w wr))
  case atStart => exact ⟨L.length - 1, _, by omega, by omega, by rw [show L.length - 1 - (L.length - 1) = 0 by omega]; rfl, rfl, rfl, acc⟩
  case round =>
    obtain ⟨j, r, hj, hgg, rfl, rfl, HR, HB⟩ := hrel
    replace acc := HB.out
    by_cases hj0 : 1 ≤ j
    · obtain ⟨k1, k2, k3, k4, k5⟩ := HST.out j r hj0 hj HR.out
      have sr : r.size < 90000 := by omega
      have k1b : r.toList.isEmpty = false := by simpa using k1
      have hn4 : ¬ (4 : Int) < ((L.length - 1 - j : Nat) : Int) + 1 := by omega
      have hk4 : ¬ (a.size : Int) ≤ (r.size : Int) := by omega
      have hsub : ((L.length - 1 - j : Nat) : Int) + 1 = ((L.length - 1 - (j - 1) : Nat) : Int) := by omega
      have hn4' : ¬ (4 : Int) < ((L.length - 1 - (j - 1) : Nat) : Int) := by omega
      go_wp2_with (first
        | (go_at_call 19; refine (under_any _ _ _ (HG.out.below acc) (by assumption) (by assumption)).mono ?_; rintro e w2 ⟨rfl, hb⟩; replace acc := acc.trans (hb.mono acc.size); clear hb)
        | (go_at_call 17; refine (up_any _ _ (HG.out.below acc) (by assumption)).mono ?_; rintro e w2 ⟨rfl, hb⟩; replace acc := acc.trans (hb.mono acc.size); clear hb; rw [k5]))
      go_roundg (j - 1)
      case measure => omega
      case rel => exact ⟨j - 1, _, by omega, by omega, by first | rfl | (congr 1; omega), rfl, rfl, acc⟩
    · have hj' : j = 0 := by omega
      subst hj'
      have hr0 : r.toList = [] := by
        rw [toList_data, HR.out]
        rfl
      go_wp2_with (first
        | (go_at_call 19; refine (under_any _ _ _ (HG.out.below acc) (by assumption) (by assumption)).mono ?_; rintro e w2 ⟨rfl, hb⟩; replace acc := acc.trans (hb.mono acc.size); clear hb)
        | (go_at_call 12; refine (refis_any _ _ (by assumption)).mono ?_; rintro e w2 ⟨rfl, hb⟩; replace acc := acc.trans (hb.mono acc.size); clear hb)
        | (go_at_call 14; refine (known_any _ (HG.out.below acc)).mono ?_; rintro e w2 ⟨rfl, hb⟩; replace acc := acc.trans (hb.mono acc.size); clear hb))
      go_ret
      exact ⟨rfl, acc⟩

theorem nameUp_walk (a : ByteArray) (ha : a.size ≤ 140737488351232) (w : World) (hg : Glob w) :
    Calls Tryd.prog 10 #[.string a] w fun e w' => e = .returned (.bool true) ∧ Below w.heap.size w w' := by
  by_cases hl : 100 < a.size
  · exact nameUp_long w a hl
  · by_cases hk : kindOf a.data.toList = 0
    · exact nameUp_none w hg a hl hk
    · obtain ⟨h1, h2, _⟩ := good_of_kind hk
      exact nameUp_some w hg a hl _ _ h1 h2
end Go.Proofs.YtnifihnlmanpkaaDoor
