/-
  TransitInserts: the walk of the law.
-/
import Derived.Test.YtjbdegcmolimoaaDoorTrRefC
import Derived.Test.YtjbdegcmolimoaaDoorTrEnds
set_option linter.unusedVariables false
set_option linter.unusedSimpArgs false
namespace Go.Proofs.YtjbdegcmolimoaaDoor
open Go Go.RowKit Go.Lib Go.Shelf

theorem own_empty (w : World) : (w.alloc (.cells #[] 9)).ownsRow w.heap.size 9 1 (.slice (some ⟨w.heap.size, 0, none⟩) 0 0) 0 (strs []) :=
  World.ownsRow_lit w #[] 0 (Nat.le_refl _) (by unfold maxLen; omega) rfl

set_option maxHeartbeats 4000000 in
theorem transitInserts_not (w : World) (ad : Option Addr) (n c : Nat) (l : List Str) (a b r : ByteArray) (hA : At w ad n l) (hk : bulk l ≤ 1048576) (ha : a.size < 1048576) (hb : b.size < 1048576) (hr : r.size < 1048576)
    (hl : (onceOf l).2 = false ∨ 600 < bulk l ∨ 600 < bulk [a.data.toList, b.data.toList, r.data.toList] ∨ isR a.data.toList = false ∨ isR b.data.toList = false ∨ isR r.data.toList = false) :
    Calls Tryd.prog 11 #[.slice ad n c, .string a, .string b, .string r] w fun e w' => e = .returned (.bool true) ∧ Below w.heap.size w w' := by
  have acc : Below w.heap.size w w := Below.refl _ _
  have HA := Lib.hid hA
  have hn : n ≤ 1048576 := by have := bulk_len l; have := hA.len; omega
  have HSZ := Lib.hid (show ∀ x ∈ l, x.length < 1100000 from fun x hx => by have := bulk_mem hx; omega)
  have sa : a.size < 1100000 := by omega
  have sb : b.size < 1100000 := by omega
  have sr : r.size < 1100000 := by omega
  have hbk := bulk3 a b r
  have hle : bulk [a.data.toList, b.data.toList, r.data.toList] ≤ 4000000000000000000 := by omega
  have tok : True := trivial
  have tok2 : True := trivial
  obtain ⟨m, ok, hon⟩ : ∃ m ok, onceOf l = (m, ok) := ⟨_, _, rfl⟩
  rw [hon] at hl
  have HON := Lib.hid hon
  clear hA hon hbk
  cases ok with
  | false =>
    clear hl
    go_enter Tryd.func11, Tryd.ntmps11
    go_wp2_with (go_at_call 16; have _t := tok; clear tok; refine (once_any _ _ _ _ l HA.out (by omega) HSZ.out).mono ?_; rintro e w9 ⟨ado, co, rfl, ho, hb⟩; rw [HON.out] at ho ⊢; replace acc := acc.trans (hb.mono acc.size); clear hb)
    go_ret
    exact ⟨rfl, acc⟩
  | true =>
    by_cases h6 : 600 < bulk l
    · have hd := Lib.hid (decide_eq_true h6)
      clear hl h6
      go_enter Tryd.func11, Tryd.ntmps11
      go_wp2_with (first
        | (go_at_call 16; have _t := tok; clear tok; refine (once_any _ _ _ _ l HA.out (by omega) HSZ.out).mono ?_; rintro e w9 ⟨ado, co, rfl, ho, hb⟩; rw [HON.out] at ho ⊢; replace acc := acc.trans (hb.mono acc.size); clear hb)
        | (go_at_call 13; have _t := tok2; clear tok2; refine (large_any _ _ _ _ l (HA.out.below acc) (by omega)).mono ?_; rintro e w2 ⟨rfl, h2⟩; replace h2 := h2.symm; subst h2; rw [hd.out]))
      go_ret
      exact ⟨rfl, acc⟩
    · have hd := Lib.hid (decide_eq_false h6)
      by_cases h7 : 600 < bulk [a.data.toList, b.data.toList, r.data.toList]
      · have hd2 := Lib.hid (decide_eq_true h7)
        clear hl h6 h7
        go_enter Tryd.func11, Tryd.ntmps11
        go_wp2_with (first
          | (go_at_call 16; have _t := tok; clear tok; refine (once_any _ _ _ _ l HA.out (by omega) HSZ.out).mono ?_; rintro e w9 ⟨ado, co, rfl, ho, hb⟩; rw [HON.out] at ho ⊢; replace acc := acc.trans (hb.mono acc.size); clear hb)
          | (go_at_call 13; have _t := tok2; clear tok2; refine (large_any _ _ _ _ l (HA.out.below acc) (by omega)).mono ?_; rintro e w2 ⟨rfl, h2⟩; replace h2 := h2.symm; subst h2; rw [hd.out])
          | (go_at_call 13; refine (large_any _ _ _ _ [a.data.toList, b.data.toList, r.data.toList] (at_lit _ _ (by simp)) hle).mono ?_; rintro e w2 ⟨rfl, h2⟩; rw [hd2.out]; have hb : Below w9.heap.size w9 w2 := (by rw [h2]; exact (Below.refl _ _).alloc (Nat.le_refl _) _); replace ho := own_below ho hb; clear h2; replace acc := acc.trans (hb.mono acc.size); clear hb))
        go_ret
        exact ⟨rfl, acc⟩
      · have hd2 := Lib.hid (decide_eq_false h7)
        cases hx : isR a.data.toList with
        | false =>
          clear hl h6 h7
          go_enter Tryd.func11, Tryd.ntmps11
          go_wp2_with (first
            | (go_at_call 16; have _t := tok; clear tok; refine (once_any _ _ _ _ l HA.out (by omega) HSZ.out).mono ?_; rintro e w9 ⟨ado, co, rfl, ho, hb⟩; rw [HON.out] at ho ⊢; replace acc := acc.trans (hb.mono acc.size); clear hb)
            | (go_at_call 13; have _t := tok2; clear tok2; refine (large_any _ _ _ _ l (HA.out.below acc) (by omega)).mono ?_; rintro e w2 ⟨rfl, h2⟩; replace h2 := h2.symm; subst h2; rw [hd.out])
            | (go_at_call 13; refine (large_any _ _ _ _ [a.data.toList, b.data.toList, r.data.toList] (at_lit _ _ (by simp)) hle).mono ?_; rintro e w2 ⟨rfl, h2⟩; rw [hd2.out]; have hb : Below w9.heap.size w9 w2 := (by rw [h2]; exact (Below.refl _ _).alloc (Nat.le_refl _) _); replace ho := own_below ho hb; clear h2; replace acc := acc.trans (hb.mono acc.size); clear hb)
            | (go_at_call 14; refine (refis_big _ _ (by assumption)).mono ?_; rintro e w3 ⟨rfl, hb⟩; (first | rw [hx] ); replace ho := own_below ho hb; replace acc := acc.trans (hb.mono acc.size); clear hb))
          go_ret
          exact ⟨rfl, acc⟩
        | true =>
          cases hy : isR b.data.toList with
          | false =>
            clear hl h6 h7
            go_enter Tryd.func11, Tryd.ntmps11
            go_wp2_with (first
              | (go_at_call 16; have _t := tok; clear tok; refine (once_any _ _ _ _ l HA.out (by omega) HSZ.out).mono ?_; rintro e w9 ⟨ado, co, rfl, ho, hb⟩; rw [HON.out] at ho ⊢; replace acc := acc.trans (hb.mono acc.size); clear hb)
              | (go_at_call 13; have _t := tok2; clear tok2; refine (large_any _ _ _ _ l (HA.out.below acc) (by omega)).mono ?_; rintro e w2 ⟨rfl, h2⟩; replace h2 := h2.symm; subst h2; rw [hd.out])
              | (go_at_call 13; refine (large_any _ _ _ _ [a.data.toList, b.data.toList, r.data.toList] (at_lit _ _ (by simp)) hle).mono ?_; rintro e w2 ⟨rfl, h2⟩; rw [hd2.out]; have hb : Below w9.heap.size w9 w2 := (by rw [h2]; exact (Below.refl _ _).alloc (Nat.le_refl _) _); replace ho := own_below ho hb; clear h2; replace acc := acc.trans (hb.mono acc.size); clear hb)
              | (go_at_call 14; refine (refis_big _ _ (by assumption)).mono ?_; rintro e w3 ⟨rfl, hb⟩; (first | rw [hx] | rw [hy] ); replace ho := own_below ho hb; replace acc := acc.trans (hb.mono acc.size); clear hb))
            go_ret
            exact ⟨rfl, acc⟩
          | true =>
            have hz : isR r.data.toList = false := by
              rcases hl with h | h | h | h | h | h
              · cases h
              · exact absurd h h6
              · exact absurd h h7
              · rw [hx] at h; cases h
              · rw [hy] at h; cases h
              · exact h
            clear hl h6 h7
            go_enter Tryd.func11, Tryd.ntmps11
            go_wp2_with (first
              | (go_at_call 16; have _t := tok; clear tok; refine (once_any _ _ _ _ l HA.out (by omega) HSZ.out).mono ?_; rintro e w9 ⟨ado, co, rfl, ho, hb⟩; rw [HON.out] at ho ⊢; replace acc := acc.trans (hb.mono acc.size); clear hb)
              | (go_at_call 13; have _t := tok2; clear tok2; refine (large_any _ _ _ _ l (HA.out.below acc) (by omega)).mono ?_; rintro e w2 ⟨rfl, h2⟩; replace h2 := h2.symm; subst h2; rw [hd.out])
              | (go_at_call 13; refine (large_any _ _ _ _ [a.data.toList, b.data.toList, r.data.toList] (at_lit _ _ (by simp)) hle).mono ?_; rintro e w2 ⟨rfl, h2⟩; rw [hd2.out]; have hb : Below w9.heap.size w9 w2 := (by rw [h2]; exact (Below.refl _ _).alloc (Nat.le_refl _) _); replace ho := own_below ho hb; clear h2; replace acc := acc.trans (hb.mono acc.size); clear hb)
              | (go_at_call 14; refine (refis_big _ _ (by assumption)).mono ?_; rintro e w3 ⟨rfl, hb⟩; (first | rw [hx] | rw [hy] | rw [hz] ); replace ho := own_below ho hb; replace acc := acc.trans (hb.mono acc.size); clear hb))
            go_ret
            exact ⟨rfl, acc⟩
end Go.Proofs.YtjbdegcmolimoaaDoor
