/-
  ReplayForgets: the walk of the law.
-/
import Derived.Test.YtjikekfjhfcdpaaFull
set_option linter.unusedVariables false
set_option linter.unusedSimpArgs false
namespace Go.Proofs.Ytjikekfjhfcdpaa
open Go Go.RowKit Go.Lib Go.Shelf

theorem forgets_out (a0 a1 a2 : Int) (w : World) (h : a0 < 0 ∨ 8 < a0 ∨ a1 < 0 ∨ 100 < a1 ∨ a2 < 0 ∨ 20 < a2) :
    Calls Try.prog 9 #[.int .i64 a0, .int .i64 a1, .int .i64 a2] w fun e w' => e = .returned (.bool true) ∧ Below w.heap.size w w' := by
  by_cases h0 : a0 < 0
  · clear h; go_enter Try.func9, Try.ntmps9; go_wp2; go_ret; exact ⟨rfl, Below.refl _ _⟩
  · by_cases h1 : 8 < a0
    · clear h; go_enter Try.func9, Try.ntmps9; go_wp2; go_ret; exact ⟨rfl, Below.refl _ _⟩
    · by_cases h2 : a1 < 0
      · clear h; go_enter Try.func9, Try.ntmps9; go_wp2; go_ret; exact ⟨rfl, Below.refl _ _⟩
      · by_cases h3 : 100 < a1
        · clear h; go_enter Try.func9, Try.ntmps9; go_wp2; go_ret; exact ⟨rfl, Below.refl _ _⟩
        · by_cases h4 : a2 < 0
          · clear h; go_enter Try.func9, Try.ntmps9; go_wp2; go_ret; exact ⟨rfl, Below.refl _ _⟩
          · have h5 : 20 < a2 := by omega
            clear h; go_enter Try.func9, Try.ntmps9; go_wp2; go_ret; exact ⟨rfl, Below.refl _ _⟩

theorem forgets_skew (at_ later : Int) (h0 : 0 ≤ later) : skewed true at_ (nobody (at_ + later) 0) (at_ + later) = decide (later ≤ 5) := by
  show (decide (at_ + later + 5 < at_ + later) || (decide (at_ + later < at_ + later - 5) || (true && decide (at_ + later ≤ at_ + 5)))) = _
  rw [decide_eq_false (by omega), decide_eq_false (by omega)]
  simp only [Bool.false_or, Bool.true_and]
  by_cases h : later ≤ 5
  · rw [decide_eq_true h, decide_eq_true (by omega)]
  · rw [decide_eq_false h, decide_eq_false (by omega)]

theorem forgets_ans (at_ later : Int) (h0 : 0 ≤ later) : seeAns [] true at_ (nobody (at_ + later) 0) (at_ + later) = if later ≤ 5 then 8 else 0 := by
  unfold seeAns
  rw [forgets_skew at_ later h0]
  by_cases h : later ≤ 5
  · rw [decide_eq_true h, if_pos h]; rfl
  · rw [decide_eq_false h, if_neg h]; rfl

set_option maxHeartbeats 1000000 in
theorem forgets_in (n : Nat) (at_ later : Int) (w : World) (hn : n ≤ 8) (b0 : 0 ≤ at_) (b1 : at_ ≤ 100) (h0 : 0 ≤ later) (h20 : later ≤ 20) :
    Calls Try.prog 9 #[.int .i64 n, .int .i64 at_, .int .i64 later] w fun e w' => e = .returned (.bool true) ∧ Below w.heap.size w w' := by
  have hnz : (n : Int) ≤ 8 := by omega
  go_enter Try.func9, Try.ntmps9
  go_wp2_with fail
  refine (new_any _ _).mono ?_
  rintro e w1 ⟨rfl, hw1⟩
  obtain ⟨hR1, hB1⟩ : SeePost w w1 w.heap.size w.heap.size [] false 0 := by rw [hw1]; exact rep_new 0 w w.heap.size (Nat.le_refl _)
  have HR1 : Aside (Rep w1 w.heap.size w.heap.size [] false 0) := hR1
  have HB1 : Aside (Below w.heap.size w w1) := hB1
  clear hw1 hR1 hB1
  go_wp2
  go_loopg [8] n (fun gg s8 wr => ∃ k : Nat, k ≤ n ∧ n - k ≤ gg ∧ s8 = .int .i64 k ∧ Aside (Rep wr w.heap.size w.heap.size (firsts at_ k) false 0) ∧ Aside (Below w.heap.size w wr))
  case atStart => exact ⟨0, by omega, by omega, rfl, HR1, HB1⟩
  case round =>
    obtain ⟨k, hk, hgg, rfl, HR, HB⟩ := hrel
    by_cases hlt : k < n
    · have hltz : (k : Int) < (n : Int) := by omega
      have hsee := see_any wr w.heap.size w.heap.size (firsts at_ k) false 0 (nobody at_ k) at_ HR.out HB.out.size (by rw [firsts_len]; omega) (by omega) (by omega)
      rw [(full_step at_ k).1, (full_step at_ k).2, if_pos (by omega)] at hsee
      go_wp2_with (go_at_call 11; refine hsee.mono ?_; rintro e w2 ⟨rfl, hp⟩)
      go_roundg (n - (k + 1))
      case measure => omega
      case rel => exact ⟨k + 1, by omega, by omega, by go_num, hp.1, HB.out.trans hp.2⟩
    · obtain rfl : k = n := by omega
      have hltz : ¬ (k : Int) < (k : Int) := by omega
      go_wp2_with fail
      refine (restart_any _ w.heap.size w.heap.size _ false 0 _ HR.out HB.out.size).mono ?_
      rintro e w2 ⟨rfl, hR2, hB2⟩
      have HB2 : Aside (Below w.heap.size w w2) := HB.out.trans hB2
      have HR2 : Aside (Rep w2 w.heap.size w.heap.size [] true at_) := hR2
      clear hR2 hB2
      have hlen := len_any w2 w.heap.size w.heap.size [] true at_ HR2.out
      have hsee := see_any w2 w.heap.size w.heap.size [] true at_ (nobody (at_ + later) 0) (at_ + later) HR2.out HB2.out.size (by simp) (by omega) (by omega)
      rw [forgets_ans at_ later h0] at hsee
      by_cases h5 : later ≤ 5
      · rw [if_pos h5] at hsee
        have h5d : decide (5 < later) = false := decide_eq_false (by omega)
        go_wp2_with (first | (go_at_call 12; refine hlen.mono ?_; rintro e w3 ⟨rfl, rfl⟩) | (go_at_call 11; refine hsee.mono ?_; rintro e w3 ⟨rfl, hp⟩) | (go_at_call 13; refine (known_any _).mono ?_; rintro e w4 ⟨rfl, hb4⟩))
        go_ret
        exact ⟨rfl, (HB2.out.trans hp.2).trans (hb4.mono (HB2.out.trans hp.2).size)⟩
      · have h5' : 5 < later := by omega
        rw [if_neg h5] at hsee
        go_wp2_with (first | (go_at_call 12; refine hlen.mono ?_; rintro e w3 ⟨rfl, rfl⟩) | (go_at_call 11; refine hsee.mono ?_; rintro e w3 ⟨rfl, hp⟩) | (go_at_call 13; refine (known_any _).mono ?_; rintro e w4 ⟨rfl, hb4⟩))
        go_ret
        exact ⟨rfl, (HB2.out.trans hp.2).trans (hb4.mono (HB2.out.trans hp.2).size)⟩

theorem replayForgets_walk (a0 a1 a2 : Int) (w0 : (Lit.int .i64 a0).wf = true) (w1 : (Lit.int .i64 a1).wf = true) (w2 : (Lit.int .i64 a2).wf = true) (w : World) :
    Calls Try.prog 9 #[.int .i64 a0, .int .i64 a1, .int .i64 a2] w fun e w' => e = .returned (.bool true) ∧ Below w.heap.size w w' := by
  by_cases h : a0 < 0 ∨ 8 < a0 ∨ a1 < 0 ∨ 100 < a1 ∨ a2 < 0 ∨ 20 < a2
  · exact forgets_out a0 a1 a2 w h
  · obtain ⟨n, rfl⟩ : ∃ n : Nat, a0 = n := ⟨a0.toNat, by omega⟩
    exact forgets_in n a1 a2 w (by omega) (by omega) (by omega) (by omega) (by omega)

end Go.Proofs.Ytjikekfjhfcdpaa
