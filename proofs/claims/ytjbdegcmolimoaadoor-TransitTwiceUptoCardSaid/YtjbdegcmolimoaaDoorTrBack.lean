/-
  TransitBack: the walk of the law.
-/
import Derived.Test.YtjbdegcmolimoaaDoorTrLib
set_option linter.unusedVariables false
set_option linter.unusedSimpArgs false
namespace Go.Proofs.YtjbdegcmolimoaaDoor
open Go Go.RowKit Go.Lib Go.Shelf

set_option maxHeartbeats 4000000 in
theorem transitBack_not (w : World) (ad : Option Addr) (n c : Nat) (l : List Str) (a b : ByteArray) (hA : At w ad n l) (hk : bulk l ≤ 1048576) (ha : a.size < 1048576) (hb : b.size < 1048576)
    (hl : (onceOf l).2 = false ∨ 600 < bulk l ∨ isR a.data.toList = false ∨ isR b.data.toList = false ∨ 200 < a.size + b.size) :
    Calls Tryd.prog 6 #[.slice ad n c, .string a, .string b] w fun e w' => e = .returned (.bool true) ∧ Below w.heap.size w w' := by
  have acc : Below w.heap.size w w := Below.refl _ _
  have HA := Lib.hid hA
  have hn : n ≤ 1048576 := by have := bulk_len l; have := hA.len; omega
  have HSZ := Lib.hid (show ∀ x ∈ l, x.length < 1100000 from fun x hx => by have := bulk_mem hx; omega)
  have sa : a.size < 1100000 := by omega
  have sb : b.size < 1100000 := by omega
  obtain ⟨m, ok, hon⟩ : ∃ m ok, onceOf l = (m, ok) := ⟨_, _, rfl⟩
  rw [hon] at hl
  have HON := Lib.hid hon
  clear hA hon
  cases ok with
  | false =>
    clear hl
    go_enter Tryd.func6, Tryd.ntmps6
    go_wp2_with (go_at_call 16; refine (once_any _ _ _ _ l HA.out (by omega) HSZ.out).mono ?_; rintro e w9 ⟨ado, co, rfl, ho, hb⟩; rw [HON.out] at ho ⊢; replace acc := acc.trans (hb.mono acc.size); clear hb)
    go_ret
    exact ⟨rfl, acc⟩
  | true =>
    by_cases h6 : 600 < bulk l
    · have hd := Lib.hid (decide_eq_true h6)
      clear hl h6
      go_enter Tryd.func6, Tryd.ntmps6
      go_wp2_with (first
        | (go_at_call 16; refine (once_any _ _ _ _ l HA.out (by omega) HSZ.out).mono ?_; rintro e w9 ⟨ado, co, rfl, ho, hb⟩; rw [HON.out] at ho ⊢; replace acc := acc.trans (hb.mono acc.size); clear hb)
        | (go_at_call 13; refine (large_any _ _ _ _ l (HA.out.below acc) (by omega)).mono ?_; rintro e w2 ⟨rfl, h2⟩; replace h2 := h2.symm; subst h2; rw [hd.out]))
      go_ret
      exact ⟨rfl, acc⟩
    · have hd := Lib.hid (decide_eq_false h6)
      cases hx : isR a.data.toList with
      | false =>
        clear hl h6
        go_enter Tryd.func6, Tryd.ntmps6
        go_wp2_with (first
          | (go_at_call 16; refine (once_any _ _ _ _ l HA.out (by omega) HSZ.out).mono ?_; rintro e w9 ⟨ado, co, rfl, ho, hb⟩; rw [HON.out] at ho ⊢; replace acc := acc.trans (hb.mono acc.size); clear hb)
          | (go_at_call 13; refine (large_any _ _ _ _ l (HA.out.below acc) (by omega)).mono ?_; rintro e w2 ⟨rfl, h2⟩; replace h2 := h2.symm; subst h2; rw [hd.out])
          | (go_at_call 14; refine (refis_big _ _ (by assumption)).mono ?_; rintro e w3 ⟨rfl, hb⟩; (first | rw [hx] ); replace ho := own_below ho hb; replace acc := acc.trans (hb.mono acc.size); clear hb))
        go_ret
        exact ⟨rfl, acc⟩
      | true =>
        cases hy : isR b.data.toList with
        | false =>
          clear hl h6
          go_enter Tryd.func6, Tryd.ntmps6
          go_wp2_with (first
            | (go_at_call 16; refine (once_any _ _ _ _ l HA.out (by omega) HSZ.out).mono ?_; rintro e w9 ⟨ado, co, rfl, ho, hb⟩; rw [HON.out] at ho ⊢; replace acc := acc.trans (hb.mono acc.size); clear hb)
            | (go_at_call 13; refine (large_any _ _ _ _ l (HA.out.below acc) (by omega)).mono ?_; rintro e w2 ⟨rfl, h2⟩; replace h2 := h2.symm; subst h2; rw [hd.out])
            | (go_at_call 14; refine (refis_big _ _ (by assumption)).mono ?_; rintro e w3 ⟨rfl, hb⟩; (first | rw [hx] | rw [hy] ); replace ho := own_below ho hb; replace acc := acc.trans (hb.mono acc.size); clear hb))
          go_ret
          exact ⟨rfl, acc⟩
        | true =>
          have h2 : 200 < a.size + b.size := by
            rcases hl with h | h | h | h | h
            · cases h
            · exact absurd h h6
            · rw [hx] at h; cases h
            · rw [hy] at h; cases h
            · exact h
          have h2z : (200 : Int) < (a.size : Int) + (b.size : Int) := by omega
          clear hl h6 h2
          go_enter Tryd.func6, Tryd.ntmps6
          go_wp2_with (first
            | (go_at_call 16; refine (once_any _ _ _ _ l HA.out (by omega) HSZ.out).mono ?_; rintro e w9 ⟨ado, co, rfl, ho, hb⟩; rw [HON.out] at ho ⊢; replace acc := acc.trans (hb.mono acc.size); clear hb)
            | (go_at_call 13; refine (large_any _ _ _ _ l (HA.out.below acc) (by omega)).mono ?_; rintro e w2 ⟨rfl, h2⟩; replace h2 := h2.symm; subst h2; rw [hd.out])
            | (go_at_call 14; refine (refis_big _ _ (by assumption)).mono ?_; rintro e w3 ⟨rfl, hb⟩; (first | rw [hx] | rw [hy] ); replace ho := own_below ho hb; replace acc := acc.trans (hb.mono acc.size); clear hb))
          go_ret
          exact ⟨rfl, acc⟩

set_option maxHeartbeats 4000000 in
theorem transitBack_is (w : World) (hg : Glob w) (ad : Option Addr) (n c : Nat) (l : List Str) (a b : ByteArray) (hA : At w ad n l) (hk : bulk l ≤ 1048576)
    (ho : (onceOf l).2 = true) (h6 : ¬ 600 < bulk l) (hx : isR a.data.toList = true) (hy : isR b.data.toList = true) (h2 : ¬ 200 < a.size + b.size) :
    Calls Tryd.prog 6 #[.slice ad n c, .string a, .string b] w fun e w' => e = .returned (.bool true) ∧ Below w.heap.size w w' := by
  have acc : Below w.heap.size w w := Below.refl _ _
  have HA := Lib.hid hA
  have HG := Lib.hid hg
  have hn : n ≤ 1048576 := by have := bulk_len l; have := hA.len; omega
  have HSZ := Lib.hid (show ∀ x ∈ l, x.length < 1100000 from fun x hx => by have := bulk_mem hx; omega)
  have sa : a.size < 1100000 := by omega
  have sb : b.size < 1100000 := by omega
  have sa2 : a.size < 90000 := by omega
  have sb2 : b.size < 90000 := by omega
  have h2z : ¬ (200 : Int) < (a.size : Int) + (b.size : Int) := by omega
  have hd := Lib.hid (decide_eq_false h6)
  obtain ⟨_, _, hmR, hmN, hm8⟩ := once_ok ho
  obtain ⟨m, ok, hon⟩ : ∃ m ok, onceOf l = (m, ok) := ⟨_, _, rfl⟩
  rw [hon] at ho hmR hmN hm8
  simp only at ho hmR hmN hm8
  subst ho
  have HON := Lib.hid hon
  have hC := compress_ok hmR hm8
  have hE := expand_compress hmR hmN hm8 hx hy
  have hcl := compress_len (l := m)
  rw [hC] at hcl
  simp only at hcl
  obtain ⟨t, ht⟩ : ∃ t : ByteArray, t = ⟨(joinOn 44 (shorts m)).toArray⟩ := ⟨_, rfl⟩
  have htd : t.data.toList = joinOn 44 (shorts m) := by rw [ht]
  have st : t.size < 70000 := by have e : t.data.toList.length = t.size := rfl; rw [htd] at e; omega
  rw [← htd] at hE hC
  have E1 := Lib.hid hE
  have E2 := Lib.hid hC
  have HMS := Lib.hid (show ∀ x ∈ m, x.length < 90000 from fun x hx => by have := isR_short' (hmR x hx); omega)
  clear hA hon hg h6 h2 hC hE hcl ht htd hmR hmN
  go_enter Tryd.func6, Tryd.ntmps6
  go_wp2_with (first
    | (go_at_call 16; refine (once_any _ _ _ _ l HA.out (by omega) HSZ.out).mono ?_; rintro e w9 ⟨ado, co, rfl, ho, hb⟩; rw [HON.out] at ho ⊢; replace acc := acc.trans (hb.mono acc.size); clear hb)
    | (go_at_call 13; refine (large_any _ _ _ _ l (HA.out.below acc) (by omega)).mono ?_; rintro e w2 ⟨rfl, h2⟩; replace h2 := h2.symm; subst h2; rw [hd.out])
    | (go_at_call 14; refine (refis_big _ _ (by assumption)).mono ?_; rintro e w3 ⟨rfl, hb⟩; (first | rw [hx] | rw [hy] ); replace ho := own_below ho hb; replace acc := acc.trans (hb.mono acc.size); clear hb)
    | (go_at_call 21; refine (compress_any _ (HG.out.below acc) _ _ _ m (At.owns ho) (by omega) HMS.out).mono ?_; rintro e w5 ⟨rfl, hb⟩; rw [E2.out]; replace ho := own_below ho hb; replace acc := acc.trans (hb.mono acc.size); clear hb)
    | (go_at_call 17; refine (expand_any _ _ _ _ (HG.out.below acc) (by assumption) (by assumption) (by assumption)).mono ?_; rintro e w6 ⟨ade, ce, rfl, hox, hb⟩; rw [E1.out] at hox ⊢; have HX1 := At.owns hox; have HX2 := (At.owns ho).below hb; clear hox; replace acc := acc.trans (hb.mono acc.size); clear hb)
    | (go_at_call 19; refine (texts_any _ _ _ _ _ _ _ m m HX1 HX2 (by first | assumption | simp | omega) (by first | assumption | simp | omega)).mono ?_; rintro e w8 ⟨rfl, hb⟩; rw [decide_eq_true rfl]; replace acc := acc.trans (hb.mono acc.size); clear hb)
    | (go_at_call 18; refine (known_any _ (HG.out.below acc)).mono ?_; rintro e w7 ⟨rfl, hb⟩; replace acc := acc.trans (hb.mono acc.size); clear hb))
  go_ret
  exact ⟨rfl, acc⟩

theorem transitBack_walk (ad : Option Addr) (n c : Nat) (l : List Str) (a b : ByteArray) (hk : bulk l ≤ 1048576) (ha : a.size < 1048576) (hb : b.size < 1048576) (w : World) (hg : Glob w) (hA : At w ad n l) :
    Calls Tryd.prog 6 #[.slice ad n c, .string a, .string b] w fun e w' => e = .returned (.bool true) ∧ Below w.heap.size w w' := by
  cases ho : (onceOf l).2
  · exact transitBack_not w ad n c l a b hA hk ha hb (.inl ho)
  · by_cases h6 : 600 < bulk l
    · exact transitBack_not w ad n c l a b hA hk ha hb (.inr (.inl h6))
    · cases hx : isR a.data.toList
      · exact transitBack_not w ad n c l a b hA hk ha hb (.inr (.inr (.inl hx)))
      · cases hy : isR b.data.toList
        · exact transitBack_not w ad n c l a b hA hk ha hb (.inr (.inr (.inr (.inl hy))))
        · by_cases h2 : 200 < a.size + b.size
          · exact transitBack_not w ad n c l a b hA hk ha hb (.inr (.inr (.inr (.inr h2))))
          · exact transitBack_is w hg ad n c l a b hA hk ho h6 hx hy h2
end Go.Proofs.YtjbdegcmolimoaaDoor
