/-
  ReplayFull: the walk of the law.
-/
import Derived.Test.YtjikekfjhfcdpaaRep
set_option linter.unusedVariables false
set_option linter.unusedSimpArgs false
namespace Go.Proofs.Ytjikekfjhfcdpaa
open Go Go.RowKit Go.Lib Go.Shelf

/-- The first k of the law's authenticators, eight at most. -/
def firsts (t : Int) (k : Nat) : List Au := (List.range (min k 8)).map fun i : Nat => nobody t (i : Int)

theorem firsts_len (t : Int) (k : Nat) : (firsts t k).length = min k 8 := by simp [firsts]
theorem firsts_succ (t : Int) (k : Nat) (h : k < 8) : firsts t (k + 1) = firsts t k ++ [nobody t k] := by
  unfold firsts
  rw [show min (k + 1) 8 = k + 1 by omega, show min k 8 = k by omega, List.range_succ]
  simp
theorem firsts_full (t : Int) (k : Nat) (h : 8 ≤ k) : firsts t (k + 1) = firsts t k := by unfold firsts; rw [show min (k + 1) 8 = min k 8 by omega]
theorem firsts_mem {t : Int} {k : Nat} {x : Au} (h : x ∈ firsts t k) : ∃ i : Nat, i < min k 8 ∧ x = nobody t i := by
  simp only [firsts, List.mem_map, List.mem_range] at h
  obtain ⟨i, hi, rfl⟩ := h
  exact ⟨i, hi, rfl⟩
theorem firsts_any (t : Int) (k : Nat) (a : Au) (h : ∀ i : Nat, i < min k 8 → same a (nobody t i) = false) : (firsts t k).any (same a) = false := by
  rw [List.any_eq_false]
  intro x hx
  obtain ⟨i, hi, rfl⟩ := firsts_mem hx
  rw [h i hi]; decide
theorem firsts_keep (t now : Int) (k : Nat) (h : now - 5 ≤ t) : (firsts t k).filter (keep now) = firsts t k := by
  rw [List.filter_eq_self]
  intro x hx
  obtain ⟨i, hi, rfl⟩ := firsts_mem hx
  show (!decide (t < now - 5)) = true
  rw [decide_eq_false (by omega)]; rfl
theorem firsts_drop (t now : Int) (k : Nat) (h : t < now - 5) : (firsts t k).filter (keep now) = [] := by
  rw [List.filter_eq_nil_iff]
  intro x hx
  obtain ⟨i, hi, rfl⟩ := firsts_mem hx
  show ¬ (!decide (t < now - 5)) = true
  rw [decide_eq_true h]; decide
theorem same_seq (t t' a b : Int) (h : a ≠ b) : same (nobody t a) (nobody t' b) = false := by simp [same, nobody, h]
theorem not_skewed (t q : Int) : skewed false 0 (nobody t q) t = false := by
  show (decide (t + 5 < t) || (decide (t < t - 5) || (false && decide (t ≤ 0 + 5)))) = false
  rw [decide_eq_false (by omega), decide_eq_false (by omega)]; rfl

/-- What is answered where the clocks are near enough. -/
theorem ans_of {l : List Au} {on : Bool} {since : Int} {a : Au} {now : Int} {m : List Au} {d : Bool} (h1 : skewed on since a now = false) (h2 : l.filter (keep now) = m) (h3 : m.any (same a) = d) :
    seeAns l on since a now = (if d then 12 else if 8 ≤ m.length then 13 else 0) ∧ seeList l on since a now = (if d then m else if 8 ≤ m.length then m else m ++ [a]) := by
  unfold seeAns seeList
  rw [h1, h2, h3]
  simp only [Bool.false_eq_true, if_false]
  exact ⟨trivial, trivial⟩

theorem full_step (t : Int) (k : Nat) : seeAns (firsts t k) false 0 (nobody t k) t = (if k < 8 then 0 else 13) ∧ seeList (firsts t k) false 0 (nobody t k) t = firsts t (k + 1) := by
  obtain ⟨e1, e2⟩ := ans_of (not_skewed t k) (firsts_keep t t k (by omega)) (firsts_any t k (nobody t k) (fun i hi => same_seq _ _ _ _ (by omega)))
  rw [e1, e2, firsts_len]
  simp only [Bool.false_eq_true, if_false]
  by_cases h : k < 8
  · rw [if_pos h, if_neg (by omega), if_neg (by omega), firsts_succ t k h]; exact ⟨rfl, rfl⟩
  · rw [if_neg h, if_pos (by omega), if_pos (by omega), firsts_full t k (by omega)]; exact ⟨rfl, rfl⟩

theorem last_ans (n : Nat) (later : Int) (h0 : 0 ≤ later) : seeAns (firsts 10 n) false 0 (nobody (10 + later) 99) (10 + later) = if 8 ≤ n ∧ later ≤ 5 then 13 else 0 := by
  by_cases h5 : later ≤ 5
  · obtain ⟨e1, _⟩ := ans_of (not_skewed (10 + later) 99) (firsts_keep 10 (10 + later) n (by omega)) (firsts_any 10 n (nobody (10 + later) 99) (fun i hi => same_seq _ _ _ _ (by omega)))
    rw [e1, firsts_len]
    rw [if_neg (by decide)]
    by_cases h : 8 ≤ n
    · rw [if_pos (by omega : 8 ≤ min n 8), if_pos ⟨h, h5⟩]
    · rw [if_neg (by omega : ¬ 8 ≤ min n 8), if_neg (fun x => h x.1)]
  · obtain ⟨e1, _⟩ := ans_of (not_skewed (10 + later) 99) (firsts_drop 10 (10 + later) n (by omega)) (d := false) rfl
    rw [e1, if_neg (fun x : 8 ≤ n ∧ later ≤ 5 => h5 x.2)]; rfl
theorem last_list (n : Nat) (later : Int) (h0 : 0 ≤ later) (h8 : 8 ≤ n) (h5 : later ≤ 5) : (seeList (firsts 10 n) false 0 (nobody (10 + later) 99) (10 + later)).length = 8 := by
  obtain ⟨_, e2⟩ := ans_of (not_skewed (10 + later) 99) (firsts_keep 10 (10 + later) n (by omega)) (firsts_any 10 n (nobody (10 + later) 99) (fun i hi => same_seq _ _ _ _ (by omega)))
  rw [e2, firsts_len]
  simp only [Bool.false_eq_true, if_false]
  rw [if_pos (by omega), firsts_len]; omega

theorem full_out (n later : Int) (w : World) (h : n < 0 ∨ 20 < n ∨ later < 0 ∨ 20 < later) :
    Calls Try.prog 3 #[.int .i64 n, .int .i64 later] w fun e w' => e = .returned (.bool true) ∧ Below w.heap.size w w' := by
  by_cases h1 : n < 0
  · clear h; go_enter Try.func3, Try.ntmps3; go_wp2; go_ret; exact ⟨rfl, Below.refl _ _⟩
  · by_cases h2 : 20 < n
    · clear h; go_enter Try.func3, Try.ntmps3; go_wp2; go_ret; exact ⟨rfl, Below.refl _ _⟩
    · by_cases h3 : later < 0
      · clear h; go_enter Try.func3, Try.ntmps3; go_wp2; go_ret; exact ⟨rfl, Below.refl _ _⟩
      · have h4 : 20 < later := by omega
        clear h; go_enter Try.func3, Try.ntmps3; go_wp2; go_ret; exact ⟨rfl, Below.refl _ _⟩

set_option maxHeartbeats 1000000 in
theorem full_in (n : Nat) (later : Int) (w : World) (hn : n ≤ 20) (h0 : 0 ≤ later) (h20 : later ≤ 20) :
    Calls Try.prog 3 #[.int .i64 n, .int .i64 later] w fun e w' => e = .returned (.bool true) ∧ Below w.heap.size w w' := by
  have hnz : (n : Int) ≤ 20 := by omega
  go_enter Try.func3, Try.ntmps3
  go_wp2_with fail
  refine (new_any _ _).mono ?_
  rintro e w1 ⟨rfl, hw1⟩
  obtain ⟨hR1, hB1⟩ : SeePost w w1 w.heap.size w.heap.size [] false 0 := by rw [hw1]; exact rep_new 0 w w.heap.size (Nat.le_refl _)
  have HR1 : Aside (Rep w1 w.heap.size w.heap.size [] false 0) := hR1
  have HB1 : Aside (Below w.heap.size w w1) := hB1
  clear hw1 hR1 hB1
  go_wp2
  go_loopg [6] n (fun gg s6 wr => ∃ k : Nat, k ≤ n ∧ n - k ≤ gg ∧ s6 = .int .i64 k ∧ Aside (Rep wr w.heap.size w.heap.size (firsts 10 k) false 0) ∧ Aside (Below w.heap.size w wr))
  case atStart => exact ⟨0, by omega, by omega, rfl, HR1, HB1⟩
  case round =>
    obtain ⟨k, hk, hgg, rfl, HR, HB⟩ := hrel
    by_cases hlt : k < n
    · have hltz : (k : Int) < (n : Int) := by omega
      have hsee := see_any wr w.heap.size w.heap.size (firsts 10 k) false 0 (nobody 10 k) 10 HR.out HB.out.size (by rw [firsts_len]; omega) (by omega) (by omega)
      rw [(full_step 10 k).1, (full_step 10 k).2] at hsee
      by_cases h8 : k < 8
      · have h8z : (k : Int) < 8 := by omega
        rw [if_pos h8] at hsee
        go_wp2_with (go_at_call 11; refine hsee.mono ?_; rintro e w2 ⟨rfl, hp⟩)
        go_roundg (n - (k + 1))
        case measure => omega
        case rel => exact ⟨k + 1, by omega, by omega, by go_num, hp.1, HB.out.trans hp.2⟩
      · have h8z : ¬ (k : Int) < 8 := by omega
        rw [if_neg h8] at hsee
        go_wp2_with (go_at_call 11; refine hsee.mono ?_; rintro e w2 ⟨rfl, hp⟩)
        go_roundg (n - (k + 1))
        case measure => omega
        case rel => exact ⟨k + 1, by omega, by omega, by go_num, hp.1, HB.out.trans hp.2⟩
    · obtain rfl : k = n := by omega
      have hltz : ¬ (k : Int) < (k : Int) := by omega
      have hsee := see_any wr w.heap.size w.heap.size (firsts 10 k) false 0 (nobody (10 + later) 99) (10 + later) HR.out HB.out.size (by rw [firsts_len]; omega) (by omega) (by omega)
      rw [last_ans k later h0] at hsee
      by_cases h8 : 8 ≤ k
      · have h8z : (8 : Int) ≤ (k : Int) := by omega
        by_cases h5 : later ≤ 5
        · rw [if_pos ⟨h8, h5⟩] at hsee
          have HLL := Lib.hid (last_list k later h0 h8 h5)
          go_wp2_with (first | (go_at_call 11; refine hsee.mono ?_; rintro e w2 ⟨rfl, hp⟩; have hl := len_any _ _ _ _ _ _ hp.1; rw [HLL.out] at hl) | (go_at_call 12; refine hl.mono ?_; rintro e w3 ⟨rfl, rfl⟩) | (go_at_call 13; refine (known_any _).mono ?_; rintro e w4 ⟨rfl, hb4⟩))
          go_ret
          exact ⟨rfl, (HB.out.trans hp.2).trans (hb4.mono (HB.out.trans hp.2).size)⟩
        · rw [if_neg (fun x => h5 x.2)] at hsee
          go_wp2_with (first | (go_at_call 11; refine hsee.mono ?_; rintro e w2 ⟨rfl, hp⟩) | (go_at_call 13; refine (known_any _).mono ?_; rintro e w4 ⟨rfl, hb4⟩))
          go_ret
          exact ⟨rfl, (HB.out.trans hp.2).trans (hb4.mono (HB.out.trans hp.2).size)⟩
      · have h8z : ¬ (8 : Int) ≤ (k : Int) := by omega
        rw [if_neg (fun x => h8 x.1)] at hsee
        go_wp2_with (first | (go_at_call 11; refine hsee.mono ?_; rintro e w2 ⟨rfl, hp⟩) | (go_at_call 13; refine (known_any _).mono ?_; rintro e w4 ⟨rfl, hb4⟩))
        go_ret
        exact ⟨rfl, (HB.out.trans hp.2).trans (hb4.mono (HB.out.trans hp.2).size)⟩

theorem replayFull_walk (a0 a1 : Int) (w0 : (Lit.int .i64 a0).wf = true) (w1 : (Lit.int .i64 a1).wf = true) (w : World) :
    Calls Try.prog 3 #[.int .i64 a0, .int .i64 a1] w fun e w' => e = .returned (.bool true) ∧ Below w.heap.size w w' := by
  by_cases h : a0 < 0 ∨ 20 < a0 ∨ a1 < 0 ∨ 20 < a1
  · exact full_out a0 a1 w h
  · obtain ⟨n, rfl⟩ : ∃ n : Nat, a0 = n := ⟨a0.toNat, by omega⟩
    exact full_in n a1 w (by omega) (by omega) (by omega)

end Go.Proofs.Ytjikekfjhfcdpaa
