/-
  ReplaySkews: the walk of the law.
-/
import Derived.Test.YtjikekfjhfcdpaaRep
set_option linter.unusedVariables false
set_option linter.unusedSimpArgs false
namespace Go.Proofs.Ytjikekfjhfcdpaa
open Go Go.RowKit Go.Lib Go.Shelf

theorem one_skewed (on : Bool) (since : Int) (a : Au) (now : Int) (h : skewed on since a now = true) : seeAns [] on since a now = 8 ∧ seeList [] on since a now = [] := by
  unfold seeAns seeList; rw [h]; exact ⟨rfl, rfl⟩
theorem one_seen (on : Bool) (since : Int) (a : Au) (now : Int) (h : skewed on since a now = false) : seeAns [] on since a now = 0 ∧ seeList [] on since a now = [a] := by
  unfold seeAns seeList; rw [h]; exact ⟨rfl, rfl⟩

theorem skews_out (a0 a1 a2 : Int) (w : World) (h : a0 < 100 ∨ 1000 < a0 ∨ a1 < -20 ∨ 20 < a1 ∨ a2 < 0 ∨ 20 < a2) :
    Calls Try.prog 7 #[.int .i64 a0, .int .i64 a1, .int .i64 a2] w fun e w' => e = .returned (.bool true) ∧ Below w.heap.size w w' := by
  by_cases h0 : a0 < 100
  · clear h; go_enter Try.func7, Try.ntmps7; go_wp2; go_ret; exact ⟨rfl, Below.refl _ _⟩
  ·
    by_cases h1 : 1000 < a0
    · clear h; go_enter Try.func7, Try.ntmps7; go_wp2; go_ret; exact ⟨rfl, Below.refl _ _⟩
    ·
      by_cases h2 : a1 < -20
      · clear h; go_enter Try.func7, Try.ntmps7; go_wp2; go_ret; exact ⟨rfl, Below.refl _ _⟩
      ·
        by_cases h3 : 20 < a1
        · clear h; go_enter Try.func7, Try.ntmps7; go_wp2; go_ret; exact ⟨rfl, Below.refl _ _⟩
        ·
          by_cases h4 : a2 < 0
          · clear h; go_enter Try.func7, Try.ntmps7; go_wp2; go_ret; exact ⟨rfl, Below.refl _ _⟩
          ·
            have h5 : 20 < a2 := by omega
            clear h; go_enter Try.func7, Try.ntmps7; go_wp2; go_ret; exact ⟨rfl, Below.refl _ _⟩

set_option maxHeartbeats 1000000 in
theorem skews_a1 (at_ by_ rs : Int) (w : World) (b0 : 100 ≤ at_) (b1 : at_ ≤ 1000) (b2 : -20 ≤ by_) (b3 : by_ ≤ 20) (b4 : 0 ≤ rs) (b5 : rs ≤ 20) (c0 : ¬ 0 < rs) (c1 : 5 < by_) :
    Calls Try.prog 7 #[.int .i64 at_, .int .i64 by_, .int .i64 rs] w fun e w' => e = .returned (.bool true) ∧ Below w.heap.size w w' := by
  have hk : skewed false 0 (nobody (at_ + by_) 0) at_ = true := by
    show (decide (at_ + 5 < at_ + by_) || (decide (at_ + by_ < at_ - 5) || (false && decide (at_ + by_ ≤ 0 + 5)))) = true
    rw [decide_eq_true (by omega)]; rfl
  have HA := Lib.hid (one_skewed _ _ _ _ hk)
  clear hk
  go_enter Try.func7, Try.ntmps7
  go_wp2_with fail
  refine (new_any _ _).mono ?_
  rintro e w1 ⟨rfl, hw1⟩
  obtain ⟨hR1, hB1⟩ : SeePost w w1 w.heap.size w.heap.size [] false 0 := by rw [hw1]; exact rep_new 0 w w.heap.size (Nat.le_refl _)
  clear hw1
  go_wp2_with (first | (go_at_call 11; refine (see_any _ w.heap.size w.heap.size [] false 0 (nobody (at_ + by_) 0) at_ hR1 hB1.size (by simp) (by omega) (by omega)).mono ?_; rintro e w2 ⟨rfl, hp⟩; rw [HA.out.1]; rw [HA.out.2] at hp; have hl := len_any _ _ _ _ _ _ hp.1) | (go_at_call 12; refine hl.mono ?_; rintro e w3 ⟨rfl, rfl⟩) | (go_at_call 13; refine (known_any _).mono ?_; rintro e w4 ⟨rfl, hb4⟩))
  all_goals (go_ret; exact ⟨rfl, (hB1.trans hp.2).trans (hb4.mono (hB1.trans hp.2).size)⟩)

set_option maxHeartbeats 1000000 in
theorem skews_a2 (at_ by_ rs : Int) (w : World) (b0 : 100 ≤ at_) (b1 : at_ ≤ 1000) (b2 : -20 ≤ by_) (b3 : by_ ≤ 20) (b4 : 0 ≤ rs) (b5 : rs ≤ 20) (c0 : ¬ 0 < rs) (c1 : by_ < -5) :
    Calls Try.prog 7 #[.int .i64 at_, .int .i64 by_, .int .i64 rs] w fun e w' => e = .returned (.bool true) ∧ Below w.heap.size w w' := by
  have hk : skewed false 0 (nobody (at_ + by_) 0) at_ = true := by
    show (decide (at_ + 5 < at_ + by_) || (decide (at_ + by_ < at_ - 5) || (false && decide (at_ + by_ ≤ 0 + 5)))) = true
    rw [decide_eq_true (p := at_ + by_ < at_ - 5) (by omega)]; simp
  have HA := Lib.hid (one_skewed _ _ _ _ hk)
  clear hk
  go_enter Try.func7, Try.ntmps7
  go_wp2_with fail
  refine (new_any _ _).mono ?_
  rintro e w1 ⟨rfl, hw1⟩
  obtain ⟨hR1, hB1⟩ : SeePost w w1 w.heap.size w.heap.size [] false 0 := by rw [hw1]; exact rep_new 0 w w.heap.size (Nat.le_refl _)
  clear hw1
  go_wp2_with (first | (go_at_call 11; refine (see_any _ w.heap.size w.heap.size [] false 0 (nobody (at_ + by_) 0) at_ hR1 hB1.size (by simp) (by omega) (by omega)).mono ?_; rintro e w2 ⟨rfl, hp⟩; rw [HA.out.1]; rw [HA.out.2] at hp; have hl := len_any _ _ _ _ _ _ hp.1) | (go_at_call 12; refine hl.mono ?_; rintro e w3 ⟨rfl, rfl⟩) | (go_at_call 13; refine (known_any _).mono ?_; rintro e w4 ⟨rfl, hb4⟩))
  all_goals (go_ret; exact ⟨rfl, (hB1.trans hp.2).trans (hb4.mono (hB1.trans hp.2).size)⟩)

set_option maxHeartbeats 1000000 in
theorem skews_a3 (at_ by_ rs : Int) (w : World) (b0 : 100 ≤ at_) (b1 : at_ ≤ 1000) (b2 : -20 ≤ by_) (b3 : by_ ≤ 20) (b4 : 0 ≤ rs) (b5 : rs ≤ 20) (c0 : ¬ 0 < rs) (c1 : by_ ≤ 5) (c2 : -5 ≤ by_) :
    Calls Try.prog 7 #[.int .i64 at_, .int .i64 by_, .int .i64 rs] w fun e w' => e = .returned (.bool true) ∧ Below w.heap.size w w' := by
  have hk : skewed false 0 (nobody (at_ + by_) 0) at_ = false := by
    show (decide (at_ + 5 < at_ + by_) || (decide (at_ + by_ < at_ - 5) || (false && decide (at_ + by_ ≤ 0 + 5)))) = false
    rw [decide_eq_false (by omega), decide_eq_false (by omega)]; rfl
  have HA := Lib.hid (one_seen _ _ _ _ hk)
  clear hk
  go_enter Try.func7, Try.ntmps7
  go_wp2_with fail
  refine (new_any _ _).mono ?_
  rintro e w1 ⟨rfl, hw1⟩
  obtain ⟨hR1, hB1⟩ : SeePost w w1 w.heap.size w.heap.size [] false 0 := by rw [hw1]; exact rep_new 0 w w.heap.size (Nat.le_refl _)
  clear hw1
  go_wp2_with (first | (go_at_call 11; refine (see_any _ w.heap.size w.heap.size [] false 0 (nobody (at_ + by_) 0) at_ hR1 hB1.size (by simp) (by omega) (by omega)).mono ?_; rintro e w2 ⟨rfl, hp⟩; rw [HA.out.1]; rw [HA.out.2] at hp; have hl := len_any _ _ _ _ _ _ hp.1) | (go_at_call 12; refine hl.mono ?_; rintro e w3 ⟨rfl, rfl⟩) | (go_at_call 13; refine (known_any _).mono ?_; rintro e w4 ⟨rfl, hb4⟩))
  all_goals (go_ret; exact ⟨rfl, (hB1.trans hp.2).trans (hb4.mono (hB1.trans hp.2).size)⟩)

set_option maxHeartbeats 1000000 in
theorem skews_b1 (at_ by_ rs : Int) (w : World) (b0 : 100 ≤ at_) (b1 : at_ ≤ 1000) (b2 : -20 ≤ by_) (b3 : by_ ≤ 20) (b4 : 0 ≤ rs) (b5 : rs ≤ 20) (c0 : 0 < rs) (c1 : 5 < by_) :
    Calls Try.prog 7 #[.int .i64 at_, .int .i64 by_, .int .i64 rs] w fun e w' => e = .returned (.bool true) ∧ Below w.heap.size w w' := by
  have hk : skewed true (at_ - rs + 1) (nobody (at_ + by_) 0) at_ = true := by
    show (decide (at_ + 5 < at_ + by_) || (decide (at_ + by_ < at_ - 5) || (true && decide (at_ + by_ ≤ (at_ - rs + 1) + 5)))) = true
    rw [decide_eq_true (by omega)]; rfl
  have HA := Lib.hid (one_skewed _ _ _ _ hk)
  clear hk
  go_enter Try.func7, Try.ntmps7
  go_wp2_with fail
  refine (new_any _ _).mono ?_
  rintro e w1 ⟨rfl, hw1⟩
  obtain ⟨hR1, hB1⟩ : SeePost w w1 w.heap.size w.heap.size [] false 0 := by rw [hw1]; exact rep_new 0 w w.heap.size (Nat.le_refl _)
  clear hw1
  go_wp2_with fail
  refine (restart_any _ w.heap.size w.heap.size [] false 0 _ hR1 hB1.size).mono ?_
  rintro e w1' ⟨rfl, hR2, hB2⟩
  replace hB2 := hB1.trans hB2
  clear hR1 hB1
  have hR1 := hR2; have hB1 := hB2
  clear hR2 hB2
  go_wp2_with (first | (go_at_call 11; refine (see_any _ w.heap.size w.heap.size [] true (at_ - rs + 1) (nobody (at_ + by_) 0) at_ hR1 hB1.size (by simp) (by omega) (by omega)).mono ?_; rintro e w2 ⟨rfl, hp⟩; rw [HA.out.1]; rw [HA.out.2] at hp; have hl := len_any _ _ _ _ _ _ hp.1) | (go_at_call 12; refine hl.mono ?_; rintro e w3 ⟨rfl, rfl⟩) | (go_at_call 13; refine (known_any _).mono ?_; rintro e w4 ⟨rfl, hb4⟩))
  all_goals (go_ret; exact ⟨rfl, (hB1.trans hp.2).trans (hb4.mono (hB1.trans hp.2).size)⟩)

set_option maxHeartbeats 1000000 in
theorem skews_b2 (at_ by_ rs : Int) (w : World) (b0 : 100 ≤ at_) (b1 : at_ ≤ 1000) (b2 : -20 ≤ by_) (b3 : by_ ≤ 20) (b4 : 0 ≤ rs) (b5 : rs ≤ 20) (c0 : 0 < rs) (c1 : by_ < -5) :
    Calls Try.prog 7 #[.int .i64 at_, .int .i64 by_, .int .i64 rs] w fun e w' => e = .returned (.bool true) ∧ Below w.heap.size w w' := by
  have hk : skewed true (at_ - rs + 1) (nobody (at_ + by_) 0) at_ = true := by
    show (decide (at_ + 5 < at_ + by_) || (decide (at_ + by_ < at_ - 5) || (true && decide (at_ + by_ ≤ (at_ - rs + 1) + 5)))) = true
    rw [decide_eq_true (p := at_ + by_ < at_ - 5) (by omega)]; simp
  have HA := Lib.hid (one_skewed _ _ _ _ hk)
  clear hk
  go_enter Try.func7, Try.ntmps7
  go_wp2_with fail
  refine (new_any _ _).mono ?_
  rintro e w1 ⟨rfl, hw1⟩
  obtain ⟨hR1, hB1⟩ : SeePost w w1 w.heap.size w.heap.size [] false 0 := by rw [hw1]; exact rep_new 0 w w.heap.size (Nat.le_refl _)
  clear hw1
  go_wp2_with fail
  refine (restart_any _ w.heap.size w.heap.size [] false 0 _ hR1 hB1.size).mono ?_
  rintro e w1' ⟨rfl, hR2, hB2⟩
  replace hB2 := hB1.trans hB2
  clear hR1 hB1
  have hR1 := hR2; have hB1 := hB2
  clear hR2 hB2
  go_wp2_with (first | (go_at_call 11; refine (see_any _ w.heap.size w.heap.size [] true (at_ - rs + 1) (nobody (at_ + by_) 0) at_ hR1 hB1.size (by simp) (by omega) (by omega)).mono ?_; rintro e w2 ⟨rfl, hp⟩; rw [HA.out.1]; rw [HA.out.2] at hp; have hl := len_any _ _ _ _ _ _ hp.1) | (go_at_call 12; refine hl.mono ?_; rintro e w3 ⟨rfl, rfl⟩) | (go_at_call 13; refine (known_any _).mono ?_; rintro e w4 ⟨rfl, hb4⟩))
  all_goals (go_ret; exact ⟨rfl, (hB1.trans hp.2).trans (hb4.mono (hB1.trans hp.2).size)⟩)

set_option maxHeartbeats 1000000 in
theorem skews_b3 (at_ by_ rs : Int) (w : World) (b0 : 100 ≤ at_) (b1 : at_ ≤ 1000) (b2 : -20 ≤ by_) (b3 : by_ ≤ 20) (b4 : 0 ≤ rs) (b5 : rs ≤ 20) (c0 : 0 < rs) (c1 : by_ ≤ 5) (c2 : -5 ≤ by_) (c3 : at_ + by_ ≤ at_ - rs + 1 + 5) :
    Calls Try.prog 7 #[.int .i64 at_, .int .i64 by_, .int .i64 rs] w fun e w' => e = .returned (.bool true) ∧ Below w.heap.size w w' := by
  have hk : skewed true (at_ - rs + 1) (nobody (at_ + by_) 0) at_ = true := by
    show (decide (at_ + 5 < at_ + by_) || (decide (at_ + by_ < at_ - 5) || (true && decide (at_ + by_ ≤ (at_ - rs + 1) + 5)))) = true
    rw [decide_eq_true c3]; simp
  have HA := Lib.hid (one_skewed _ _ _ _ hk)
  clear hk
  go_enter Try.func7, Try.ntmps7
  go_wp2_with fail
  refine (new_any _ _).mono ?_
  rintro e w1 ⟨rfl, hw1⟩
  obtain ⟨hR1, hB1⟩ : SeePost w w1 w.heap.size w.heap.size [] false 0 := by rw [hw1]; exact rep_new 0 w w.heap.size (Nat.le_refl _)
  clear hw1
  go_wp2_with fail
  refine (restart_any _ w.heap.size w.heap.size [] false 0 _ hR1 hB1.size).mono ?_
  rintro e w1' ⟨rfl, hR2, hB2⟩
  replace hB2 := hB1.trans hB2
  clear hR1 hB1
  have hR1 := hR2; have hB1 := hB2
  clear hR2 hB2
  go_wp2_with (first | (go_at_call 11; refine (see_any _ w.heap.size w.heap.size [] true (at_ - rs + 1) (nobody (at_ + by_) 0) at_ hR1 hB1.size (by simp) (by omega) (by omega)).mono ?_; rintro e w2 ⟨rfl, hp⟩; rw [HA.out.1]; rw [HA.out.2] at hp; have hl := len_any _ _ _ _ _ _ hp.1) | (go_at_call 12; refine hl.mono ?_; rintro e w3 ⟨rfl, rfl⟩) | (go_at_call 13; refine (known_any _).mono ?_; rintro e w4 ⟨rfl, hb4⟩))
  all_goals (go_ret; exact ⟨rfl, (hB1.trans hp.2).trans (hb4.mono (hB1.trans hp.2).size)⟩)

set_option maxHeartbeats 1000000 in
theorem skews_b4 (at_ by_ rs : Int) (w : World) (b0 : 100 ≤ at_) (b1 : at_ ≤ 1000) (b2 : -20 ≤ by_) (b3 : by_ ≤ 20) (b4 : 0 ≤ rs) (b5 : rs ≤ 20) (c0 : 0 < rs) (c1 : by_ ≤ 5) (c2 : -5 ≤ by_) (c3 : ¬ at_ + by_ ≤ at_ - rs + 1 + 5) :
    Calls Try.prog 7 #[.int .i64 at_, .int .i64 by_, .int .i64 rs] w fun e w' => e = .returned (.bool true) ∧ Below w.heap.size w w' := by
  have hk : skewed true (at_ - rs + 1) (nobody (at_ + by_) 0) at_ = false := by
    show (decide (at_ + 5 < at_ + by_) || (decide (at_ + by_ < at_ - 5) || (true && decide (at_ + by_ ≤ (at_ - rs + 1) + 5)))) = false
    rw [decide_eq_false (by omega), decide_eq_false (by omega), decide_eq_false c3]; rfl
  have HA := Lib.hid (one_seen _ _ _ _ hk)
  clear hk
  go_enter Try.func7, Try.ntmps7
  go_wp2_with fail
  refine (new_any _ _).mono ?_
  rintro e w1 ⟨rfl, hw1⟩
  obtain ⟨hR1, hB1⟩ : SeePost w w1 w.heap.size w.heap.size [] false 0 := by rw [hw1]; exact rep_new 0 w w.heap.size (Nat.le_refl _)
  clear hw1
  go_wp2_with fail
  refine (restart_any _ w.heap.size w.heap.size [] false 0 _ hR1 hB1.size).mono ?_
  rintro e w1' ⟨rfl, hR2, hB2⟩
  replace hB2 := hB1.trans hB2
  clear hR1 hB1
  have hR1 := hR2; have hB1 := hB2
  clear hR2 hB2
  go_wp2_with (first | (go_at_call 11; refine (see_any _ w.heap.size w.heap.size [] true (at_ - rs + 1) (nobody (at_ + by_) 0) at_ hR1 hB1.size (by simp) (by omega) (by omega)).mono ?_; rintro e w2 ⟨rfl, hp⟩; rw [HA.out.1]; rw [HA.out.2] at hp; have hl := len_any _ _ _ _ _ _ hp.1) | (go_at_call 12; refine hl.mono ?_; rintro e w3 ⟨rfl, rfl⟩) | (go_at_call 13; refine (known_any _).mono ?_; rintro e w4 ⟨rfl, hb4⟩))
  all_goals (go_ret; exact ⟨rfl, (hB1.trans hp.2).trans (hb4.mono (hB1.trans hp.2).size)⟩)

theorem replaySkews_walk (a0 a1 a2 : Int) (w0 : (Lit.int .i64 a0).wf = true) (w1 : (Lit.int .i64 a1).wf = true) (w2 : (Lit.int .i64 a2).wf = true) (w : World) :
    Calls Try.prog 7 #[.int .i64 a0, .int .i64 a1, .int .i64 a2] w fun e w' => e = .returned (.bool true) ∧ Below w.heap.size w w' := by
  by_cases h : a0 < 100 ∨ 1000 < a0 ∨ a1 < -20 ∨ 20 < a1 ∨ a2 < 0 ∨ 20 < a2
  · exact skews_out a0 a1 a2 w h
  · have b0 : 100 ≤ a0 := by omega
    have b1 : a0 ≤ 1000 := by omega
    have b2 : -20 ≤ a1 := by omega
    have b3 : a1 ≤ 20 := by omega
    have b4 : 0 ≤ a2 := by omega
    have b5 : a2 ≤ 20 := by omega
    by_cases c0 : 0 < a2
    · by_cases c1 : 5 < a1
      · exact skews_b1 a0 a1 a2 w b0 b1 b2 b3 b4 b5 c0 c1
      · by_cases c2 : a1 < -5
        · exact skews_b2 a0 a1 a2 w b0 b1 b2 b3 b4 b5 c0 c2
        · by_cases c3 : a0 + a1 ≤ a0 - a2 + 1 + 5
          · exact skews_b3 a0 a1 a2 w b0 b1 b2 b3 b4 b5 c0 (by omega) (by omega) c3
          · exact skews_b4 a0 a1 a2 w b0 b1 b2 b3 b4 b5 c0 (by omega) (by omega) c3
    · by_cases c1 : 5 < a1
      · exact skews_a1 a0 a1 a2 w b0 b1 b2 b3 b4 b5 c0 c1
      · by_cases c2 : a1 < -5
        · exact skews_a2 a0 a1 a2 w b0 b1 b2 b3 b4 b5 c0 c2
        · exact skews_a3 a0 a1 a2 w b0 b1 b2 b3 b4 b5 c0 (by omega) (by omega)

end Go.Proofs.Ytjikekfjhfcdpaa
