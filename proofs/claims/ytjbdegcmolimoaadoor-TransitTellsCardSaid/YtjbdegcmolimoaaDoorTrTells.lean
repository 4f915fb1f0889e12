/-
  TransitTells: the law's walk.
-/
import Derived.Test.YtjbdegcmolimoaaDoorTrRefIns
import Derived.Test.YtjbdegcmolimoaaDoorTrKnown
import Derived.Test.YtjbdegcmolimoaaDoorTrIns
import Derived.Test.YtjbdegcmolimoaaDoorTexts
set_option linter.unusedVariables false
set_option linter.unusedSimpArgs false
set_option maxRecDepth 100000
namespace Go.Proofs.YtjbdegcmolimoaaDoor
open Go Go.RowKit Go.Lib Go.Shelf

theorem bulk_max {l : List Str} {m : Nat} (h : ∀ x ∈ l, x.length ≤ m) : bulk l ≤ l.length * (m + 1) := by
  induction l with
  | nil => simp [bulk]
  | cons y t ih =>
    have e : bulk (y :: t) = 1 + y.length + bulk t := rfl
    have := ih (fun x hx => h x (by simp [hx]))
    have := h y (by simp)
    rw [List.length_cons, Nat.add_mul]
    omega
theorem bulk4 (s a b r : ByteArray) : bulk [s.data.toList, a.data.toList, b.data.toList, r.data.toList] = 4 + (s.size + a.size + b.size + r.size) := by
  have e1 : s.data.toList.length = s.size := rfl
  have e2 : a.data.toList.length = a.size := rfl
  have e3 : b.data.toList.length = b.size := rfl
  have e4 : r.data.toList.length = r.size := rfl
  simp only [bulk, List.map_cons, List.map_nil, List.sum_cons, List.sum_nil]
  omega

set_option maxHeartbeats 8000000 in
theorem transitTells_walk (ad : Option Addr) (n c : Nat) (l : List Str) (s a b r : ByteArray) (hsz : ∀ x ∈ l, x.length ≤ 140737488351232) (hs : s.size ≤ 140737488351232) (ha : a.size ≤ 140737488351232) (hb : b.size ≤ 140737488351232) (hr : r.size ≤ 140737488351232) (w : World) (hg : Glob w) (hA : At w ad n l) :
    Calls Tryd.prog 10 #[.slice ad n c, .string s, .string a, .string b, .string r] w fun e w' => e = .returned (.bool true) ∧ Below w.heap.size w w' := by
  have acc : Below w.heap.size w w := Below.refl _ _
  have hl := hA.len
  have HA := Lib.hid hA
  by_cases h60 : 60 < n
  · have h60z : (60 : Int) < (n : Int) := by omega
    go_enter Tryd.func10, Tryd.ntmps10
    go_wp2
    go_ret
    exact ⟨rfl, acc⟩
  · have h60z : ¬ (60 : Int) < (n : Int) := by omega
    have hb1 : bulk l ≤ 4000000000000000000 := by
      have := bulk_max hsz
      have := Nat.mul_le_mul_right (140737488351232 + 1) (show l.length ≤ 60 by omega)
      omega
    have hl0 := Lib.hid hl
    have LG1 := fun w hA => large_any w ad n c l hA hb1
    by_cases h6 : 600 < bulk l
    · rw [decide_eq_true h6] at LG1
      clear h6
      go_enter Tryd.func10, Tryd.ntmps10
      go_wp2_with (go_at_call 13; refine (LG1 _ HA.out).mono ?_; rintro e w2 ⟨rfl, rfl⟩)
      go_ret
      exact ⟨rfl, acc⟩
    · rw [decide_eq_false h6] at LG1
      have hbk := bulk4 s a b r
      have hle : bulk [s.data.toList, a.data.toList, b.data.toList, r.data.toList] ≤ 4000000000000000000 := by omega
      have tok : True := trivial
      by_cases h7 : 600 < bulk [s.data.toList, a.data.toList, b.data.toList, r.data.toList]
      · have hd := Lib.hid (decide_eq_true h7)
        clear h7 hbk
        go_enter Tryd.func10, Tryd.ntmps10
        go_wp2_with (first
          | (go_at_call 13; have _t := tok; refine (LG1 _ HA.out).mono ?_; rintro e w2 ⟨rfl, h2⟩; replace h2 := h2.symm; subst h2; clear tok)
          | (go_at_call 13; refine (large_any _ _ _ _ [s.data.toList, a.data.toList, b.data.toList, r.data.toList] (at_lit _ _ (by simp)) hle).mono ?_; rintro e w3 ⟨rfl, h2⟩; rw [hd.out]; replace acc : Below w.heap.size w w3 := (by rw [h2]; exact acc.alloc acc.size _); clear h2))
        go_ret
        exact ⟨rfl, acc⟩
      · have hd := Lib.hid (decide_eq_false h7)
        have ss : s.size < 70000 := by omega
        have sa : a.size < 90000 := by omega
        have sb : b.size < 90000 := by omega
        have sr : r.size < 90000 := by omega
        have hsz2 : ∀ x ∈ l, x.length < 90000 := fun x hx => by have := bulk_mem hx; omega
        have HSZ := Lib.hid hsz2
        have HG := Lib.hid hg
        have h8 := (expand_isR s.data.toList a.data.toList b.data.toList).2
        have hn : n ≤ 100000 := by omega
        obtain ⟨C, hC⟩ : ∃ C, C = compressOf l := ⟨_, rfl⟩
        obtain ⟨X, hX⟩ : ∃ X, X = expandOf s.data.toList a.data.toList b.data.toList := ⟨_, rfl⟩
        obtain ⟨I, hI⟩ : ∃ I, I = insertOf s.data.toList a.data.toList b.data.toList r.data.toList := ⟨_, rfl⟩
        rw [← hX] at h8
        have KC : ∀ w w2 e, CompPost w w2 l e → e = .returned (.tuple #[.string ⟨C.1.toArray⟩, .int .i64 C.2]) ∧ Below w.heap.size w w2 := by rw [hC]; exact fun _ _ _ h => h
        have KX : ∀ w w2 e, ExpPost w w2 (expandOf s.data.toList a.data.toList b.data.toList) e → ExpPost w w2 X e := by rw [hX]; exact fun _ _ _ h => h
        have HKC := Lib.hid KC
        have HKX := Lib.hid KX
        have HI := Lib.hid hI
        clear h7 hbk hsz2 hC hX hI KC KX hg hsz hs ha hb hr
        go_enter Tryd.func10, Tryd.ntmps10
        go_wp2_with (first
          | (go_at_call 13; have _t := tok; refine (LG1 _ HA.out).mono ?_; rintro e w2 ⟨rfl, h2⟩; replace h2 := h2.symm; subst h2; clear tok)
          | (go_at_call 13; refine (large_any _ _ _ _ [s.data.toList, a.data.toList, b.data.toList, r.data.toList] (at_lit _ _ (by simp)) hle).mono ?_; rintro e w3 ⟨rfl, h2⟩; rw [hd.out]; replace acc : Below w.heap.size w w3 := (by rw [h2]; exact acc.alloc acc.size _); clear h2)
          | (go_at_call 21; refine (compress_any _ (HG.out.below acc) _ _ _ l (HA.out.below acc) hn HSZ.out).mono ?_; intro e w4 hp; obtain ⟨rfl, hb⟩ := HKC.out _ _ _ hp; replace acc := acc.trans (hb.mono acc.size); clear hb hp)
          | (go_at_call 22; refine (refcompress_any _ _ _ _ l (HA.out.below acc) hn HSZ.out).mono ?_; intro e w5 hp; obtain ⟨rfl, hb⟩ := HKC.out _ _ _ hp; replace acc := acc.trans (hb.mono acc.size); clear hb hp)
          | (go_at_call 17; refine (expand_any _ _ _ _ (HG.out.below acc) ss sa sb).mono ?_; intro e w6 hp; obtain ⟨ad1, c1, rfl, ho1, hb⟩ := HKX.out _ _ _ hp; replace acc := acc.trans (hb.mono acc.size); clear hb hp)
          | (go_at_call 23; refine (refexpand_any _ _ _ _ ss sa sb).mono ?_; intro e w7 hp; obtain ⟨ad2, c2, rfl, ho2, hb7⟩ := HKX.out _ _ _ hp; replace acc := acc.trans (hb7.mono acc.size); clear hp)
          | (go_at_call 24; refine (insert_any _ _ _ _ _ (HG.out.below acc) ss sa sb sr).mono ?_; rintro e w8 ⟨rfl, hb8⟩; rw [← HI.out]; replace acc := acc.trans (hb8.mono acc.size))
          | (go_at_call 25; refine (refinsert_any _ _ _ _ _ ss sa sb sr).mono ?_; rintro e w9 ⟨rfl, hb9⟩; rw [← HI.out]; replace acc := acc.trans (hb9.mono acc.size))
          | (go_at_call 19; refine (texts_any _ _ _ _ _ _ _ X.1 X.1 ((At.owns ho1).below (hb7.trans ((hb8.mono hb7.size).trans (hb9.mono (Nat.le_trans hb7.size hb8.size))))) ((At.owns ho2).below (hb8.trans (hb9.mono hb8.size))) (by omega) (by omega)).mono ?_; rintro e w10 ⟨rfl, hb⟩; rw [decide_eq_true (rfl : X.1 = X.1)]; replace acc := acc.trans (hb.mono acc.size); clear hb)
          | (go_at_call 18; refine (known_any _ (HG.out.below acc)).mono ?_; rintro e w11 ⟨rfl, hb⟩; replace acc := acc.trans (hb.mono acc.size); clear hb))
        go_ret
        exact ⟨rfl, acc⟩
end Go.Proofs.YtjbdegcmolimoaaDoor
