/-
  RouteNone: the law's walk.
-/
import Derived.Test.YtcleonpckgfdhaaDoorRtKnown
set_option linter.unusedVariables false
set_option linter.unusedSimpArgs false
set_option maxRecDepth 100000
namespace Go.Proofs.YtcleonpckgfdhaaDoor
open Go Go.RowKit Go.Lib Go.Shelf

theorem sumBy_max {l : List Str} {m : Nat} (h : ∀ x ∈ l, x.length ≤ m) : sumBy sizeS l ≤ l.length * (m + 1) := by
  induction l with
  | nil => simp [sumBy]
  | cons y t ih =>
    have e : sumBy sizeS (y :: t) = 1 + y.length + sumBy sizeS t := rfl
    have := ih (fun x hx => h x (by simp [hx]))
    have := h y (by simp)
    rw [List.length_cons, Nat.add_mul]
    omega

set_option maxHeartbeats 8000000 in
theorem routeNone_walk (ad : Option Addr) (n c : Nat) (l : List Str) (a b : Int) (hsz : ∀ x ∈ l, x.length ≤ 140737488351232) (hnc : n ≤ c) (_ : (Lit.int .i64 a).wf = true) (_ : (Lit.int .i64 b).wf = true) (w : World) (hg : Glob w) (hA : At w ad n l) :
    Calls Tryd.prog 7 #[.slice ad n c, .int .i64 a, .int .i64 b] w fun e w' => e = .returned (.bool true) ∧ Below w.heap.size w w' := by
  by_cases h20 : 20 < n
  · have h20z : (20 : Int) < (n : Int) := by omega
    clear hA hsz
    go_enter Tryd.func7, Tryd.ntmps7
    go_wp2
    go_ret
    exact ⟨rfl, (Below.refl _ _).alloc (Nat.le_refl _) _⟩
  have h20z : ¬ (20 : Int) < (n : Int) := by omega
  obtain ⟨T, hTT⟩ : ∃ T : Topo, T = ⟨l, [], []⟩ := ⟨_, rfl⟩
  obtain ⟨w1, hw1⟩ : ∃ w1, w1 = w.alloc (.cells #[.slice ad n c, .slice none 0 0, .slice none 0 0] 26) := ⟨_, rfl⟩
  obtain ⟨acc0, hz, kp⟩ := box_keep hw1
  have keep : ∀ W, Below w1.heap.size w1 W → W.cell? ⟨w.heap.size, 0, none⟩ = some (.slice ad n c) ∧ W.cell? ⟨w.heap.size, 1, none⟩ = some (.slice none 0 0) ∧ W.cell? ⟨w.heap.size, 2, none⟩ = some (.slice none 0 0) := fun W h => ⟨kp W h 0 _ rfl, kp W h 1 _ rfl, kp W h 2 _ rfl⟩
  have hT : Tt w1 ⟨ad, n, c, none, 0, 0, none, 0, 0⟩ T := by rw [hTT]; exact ⟨hA.below acc0, LinksAt.nil _ _, WaysAt.nil _ _, hnc, Nat.le_refl _, Nat.le_refl _⟩
  have hl : T.realms.length = n := hT.r.len
  have hbk0 : bulkT T ≤ 4000000000000000000 := by
    have h1 : sumBy sizeS T.realms ≤ T.realms.length * (140737488351232 + 1) := sumBy_max (by rw [hTT]; exact hsz)
    have h2 := Nat.mul_le_mul_right (140737488351232 + 1) (show T.realms.length ≤ 20 by omega)
    have h3 : bulkT T = sumBy sizeS T.realms := by rw [hTT]; unfold bulkT; simp [sumBy]
    omega
  have hB := big_any w1 ⟨ad, n, c, none, 0, 0, none, 0, 0⟩ T hT hbk0
  have HG := Lib.hid (hg.below acc0)
  have KEEP := Lib.hid keep
  have ACC := Lib.hid acc0
  have HW1 := Lib.hid hw1
  have HT1 := Lib.hid hT
  dsimp only at hB
  rw [hw1] at hB
  have hnol : T.links = [] := by rw [hTT]
  by_cases hbig : 3000 < bulkT T
  · rw [decide_eq_true hbig] at hB
    clear hbig hbk0 hl hw1 acc0 hz kp keep hg hT hsz hA hnol hTT
    go_enter Tryd.func7, Tryd.ntmps7
    go_wp2_with (go_at_call 11; refine hB.mono ?_; rintro e w2 ⟨rfl, hb2⟩; rw [← HW1.out] at hb2)
    go_ret
    exact ⟨rfl, ACC.out.trans (hb2.mono ACC.out.size)⟩
  · rw [decide_eq_false hbig] at hB
    have hbk : bulkT T ≤ 3000 := by omega
    obtain ⟨hr1, hr2⟩ := bulk_realms hbk
    obtain ⟨hS, hr4⟩ := bulk_short hbk (by omega)
    have hRI := fun W (h : Below w1.heap.size w1 W) => refIs7_any W ⟨ad, n, c, none, 0, 0, none, 0, 0⟩ T (hT.below h) (fun r hr => by have := hr2 r hr; omega) (by dsimp only; omega) (by dsimp only; omega) (by dsimp only; omega)
    dsimp only at hRI
    have HRI := Lib.hid hRI
    by_cases hok : topoOk T
    case neg =>
      have HOK := Lib.hid (decide_eq_false hok)
      clear hbig hbk0 hl hw1 acc0 hz kp keep hg hT hsz hA hnol hTT hbk hr1 hr2 hS hr4 hRI hok
      go_enter Tryd.func7, Tryd.ntmps7
      go_wp2_with (first
        | (go_at_call 11; refine hB.mono ?_; rintro e w2 ⟨rfl, hb2⟩; rw [← HW1.out] at hb2; have acc : Below w1.heap.size w1 w2 := hb2; clear hb2; obtain ⟨a0, a1, a2⟩ := KEEP.out w2 acc)
        | (go_at_call 13; refine (HRI.out _ acc).mono ?_; rintro e w3 ⟨rfl, hb3⟩; rw [HOK.out]; replace acc := acc.trans (hb3.mono acc.size)))
      go_ret
      exact ⟨rfl, ACC.out.trans (acc.mono ACC.out.size)⟩
    have HOK := Lib.hid (decide_eq_true hok)
    have hn1 : 1 ≤ n := by have := hok.1.1; omega
    have hPK : ∀ W, Below w1.heap.size w1 W → ∀ k : Int, Calls Tryd.prog 15 #[.agg #[.slice ad n c, .slice none 0 0, .slice none 0 0], .int .i64 k] W fun e w' => ∃ X : ByteArray, e = .returned (.string X) ∧ X.size < 90000 ∧ Below W.heap.size W w' := fun W h k => by
      refine (pick_any W ⟨ad, n, c, none, 0, 0, none, 0, 0⟩ T k (hT.below h) (by dsimp only; omega) (by dsimp only; omega)).mono ?_
      rintro e w' ⟨rfl, hb⟩
      have hm := pick_mem (T := T) (by omega) k
      exact ⟨_, rfl, by have := hr2 _ hm; show (pickOf T k).length < 90000; omega, hb⟩
    have HPK := Lib.hid hPK
    have HS := Lib.hid hS
    have HNL := Lib.hid (fun x y => walk_nolinks hnol x y)
    have tok : True := trivial
    clear hbig hbk0 hl hw1 acc0 hz kp keep hg hT hsz hA hnol hTT hbk hr1 hr2 hS hr4 hRI hok hPK
    go_enter Tryd.func7, Tryd.ntmps7
    go_wp2_with (first
      | (go_at_call 11; refine hB.mono ?_; rintro e w2 ⟨rfl, hb2⟩; rw [← HW1.out] at hb2; have acc : Below w1.heap.size w1 w2 := hb2; clear hb2; obtain ⟨a0, a1, a2⟩ := KEEP.out w2 acc)
      | (go_at_call 13; refine (HRI.out _ acc).mono ?_; rintro e w3 ⟨rfl, hb3⟩; rw [HOK.out]; replace acc := acc.trans (hb3.mono acc.size); clear hb3 a0 a1 a2))
    clear hB
    have acc := acc.drew
    go_region_held3 (fun W => W.cell? ⟨w.heap.size, 0, none⟩ = some (.slice ad n c) ∧ W.cell? ⟨w.heap.size, 1, none⟩ = some (.slice none 0 0) ∧ W.cell? ⟨w.heap.size, 2, none⟩ = some (.slice none 0 0)) (first | exact KEEP.out _ acc | go_keep)
      (first
        | (go_at_call 15; have _t := tok; refine (HPK.out _ acc _).mono ?_; rintro e w4 ⟨X, rfl, hX, hb4⟩; replace acc := acc.trans (hb4.mono acc.size); clear hb4 tok)
        | (go_at_call 15; refine (HPK.out _ acc _).mono ?_; rintro e w5 ⟨Y, rfl, hY, hb5⟩; replace acc := acc.trans (hb5.mono acc.size); clear hb5))
    obtain ⟨e1, e2⟩ := HNL.out X.data.toList Y.data.toList
    have HNX := Lib.hid e1
    obtain ⟨a0, a1, a2⟩ := KEEP.out _ acc
    have kxy := eq_bytes X Y
    by_cases q : X.data.toList = Y.data.toList
    · rw [if_pos q] at e2
      rw [decide_eq_true q] at kxy
      have HWK := Lib.hid e2
      clear e1 e2 q
      go_wp2_with (first
        | (go_at_call 24; refine (next_any _ ⟨ad, n, c, none, 0, 0, none, 0, 0⟩ T X Y (HT1.out.below acc) HS.out (by dsimp only; omega) (HG.out.below acc) hX hY).mono ?_; rintro e w6 ⟨rfl, hb6⟩; rw [HNX.out]; unfold nextV; replace acc := acc.trans (hb6.mono acc.size); clear hb6 a0 a1 a2; obtain ⟨a0, a1, a2⟩ := KEEP.out w6 acc)
        | (go_at_call 16; refine (walk_any _ ⟨ad, n, c, none, 0, 0, none, 0, 0⟩ T X Y (HT1.out.below acc) HS.out (by dsimp only; omega) (HG.out.below acc) hX hY).mono ?_; intro e w7 hp; rw [HWK.out] at hp; obtain ⟨adw, cw, rfl, hAw, hb7⟩ := hp; replace acc := acc.trans (hb7.mono acc.size); clear hb7 hAw)
        | (go_at_call 14; refine (known_any _ (HG.out.below acc)).mono ?_; rintro e w9 ⟨rfl, hb9⟩; replace acc := acc.trans (hb9.mono acc.size); clear hb9))
      go_ret
      exact ⟨rfl, ACC.out.trans (acc.mono ACC.out.size)⟩
    · rw [if_neg q] at e2
      rw [decide_eq_false q] at kxy
      have HWK := Lib.hid e2
      clear e1 e2 q
      go_wp2_with (first
        | (go_at_call 24; refine (next_any _ ⟨ad, n, c, none, 0, 0, none, 0, 0⟩ T X Y (HT1.out.below acc) HS.out (by dsimp only; omega) (HG.out.below acc) hX hY).mono ?_; rintro e w6 ⟨rfl, hb6⟩; rw [HNX.out]; unfold nextV; replace acc := acc.trans (hb6.mono acc.size); clear hb6 a0 a1 a2; obtain ⟨a0, a1, a2⟩ := KEEP.out w6 acc)
        | (go_at_call 16; refine (walk_any _ ⟨ad, n, c, none, 0, 0, none, 0, 0⟩ T X Y (HT1.out.below acc) HS.out (by dsimp only; omega) (HG.out.below acc) hX hY).mono ?_; intro e w7 hp; rw [HWK.out] at hp; obtain ⟨rfl, hb7⟩ := hp; replace acc := acc.trans (hb7.mono acc.size); clear hb7)
        | (go_at_call 14; refine (known_any _ (HG.out.below acc)).mono ?_; rintro e w9 ⟨rfl, hb9⟩; replace acc := acc.trans (hb9.mono acc.size); clear hb9))
      go_ret
      exact ⟨rfl, ACC.out.trans (acc.mono ACC.out.size)⟩
end Go.Proofs.YtcleonpckgfdhaaDoor
