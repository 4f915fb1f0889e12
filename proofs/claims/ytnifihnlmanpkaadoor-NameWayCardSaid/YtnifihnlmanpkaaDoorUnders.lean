/-
  NameUnders: the walk of the law.
-/
import Derived.Test.YtnifihnlmanpkaaDoorRefKind
set_option linter.unusedVariables false
set_option linter.unusedSimpArgs false
namespace Go.Proofs.YtnifihnlmanpkaaDoor
open Go Go.RowKit Go.Lib Go.Shelf

theorem under_iff (a b : Str) : underOf a b = true ↔ kindOf a ≠ 0 ∧ kindOf a = kindOf b ∧ (labelsOf b).1.length < (labelsOf a).1.length ∧ (labelsOf a).1.take (labelsOf b).1.length = (labelsOf b).1 := by
  simp [underOf]

theorem under_anti (a b : Str) (h : underOf a b = true) (h' : underOf b a = true) : False := by
  have h1 := (under_iff a b).1 h
  have h2 := (under_iff b a).1 h'
  omega

theorem under_trans (a b c : Str) (h : underOf a b = true) (h' : underOf b c = true) : underOf a c = true := by
  have h1 := (under_iff a b).1 h
  have h2 := (under_iff b c).1 h'
  refine (under_iff a c).2 ⟨h1.1, h1.2.1.trans h2.2.1, by omega, ?_⟩
  have h3 := h2.2.2.2
  rw [← h1.2.2.2, List.take_take, Nat.min_eq_left (by omega)] at h3
  exact h3

theorem betOf_len (a b : Str) : (betOf a b).length ≤ ((labelsOf a).1.length - max (sameLen a b) 1) + ((labelsOf b).1.length - max (sameLen a b) 1) := by
  unfold betOf
  split
  · simp
  · have h1 := List.length_filter_le (fun x => !ends a b x) (dn (ups (labelsOf a).1 (kindOf a) (max (sameLen a b) 1 - 1)) (labelsOf b).1 (kindOf b) (max (sameLen a b) 1) ((labelsOf b).1.length - max (sameLen a b) 1))
    have h2 := dn_length (ups (labelsOf a).1 (kindOf a) (max (sameLen a b) 1 - 1)) (labelsOf b).1 (kindOf b) (max (sameLen a b) 1) ((labelsOf b).1.length - max (sameLen a b) 1)
    have h3 := ups_length (labelsOf a).1 (kindOf a) (max (sameLen a b) 1 - 1)
    unfold others
    omega

theorem betOf_six (a b : Str) : (betOf a b).length ≤ 6 := by
  have h := betOf_len a b
  have h1 := labels_len a
  have h2 := labels_len b
  omega

theorem under_few (a b : Str) (h : underOf a b = true) : (betOf a b).length ≤ 4 := by
  have h1 := (under_iff a b).1 h
  have h2 := betOf_len a b
  have h3 : (labelsOf b).1.length ≤ sameLen a b := by
    unfold sameLen
    rw [if_pos h1.2.1]
    exact comLen_of_take _ _ _ (by omega) (Nat.le_refl _) (by rw [h1.2.2.2, List.take_length])
  have h4 := labels_len a
  omega

theorem under_kind (a b : Str) (h : underOf a b = true) : kindOf a = kindOf b := ((under_iff a b).1 h).2.1

theorem nameUnders_long (w : World) (a b c : ByteArray) (ha : a.size ≤ 140737488351232) (hb : b.size ≤ 140737488351232) (hc : c.size ≤ 140737488351232) (hl : 300 < a.size + b.size + c.size) :
    Calls Tryd.prog 7 #[.string a, .string b, .string c] w fun e w' => e = .returned (.bool true) ∧ Below w.heap.size w w' := by
  have h1 : (300 : Int) < (a.size : Int) + (b.size : Int) + (c.size : Int) := by omega
  clear hl
  go_enter Tryd.func7, Tryd.ntmps7
  go_wp2
  go_ret
  exact ⟨rfl, Below.refl _ _⟩

set_option maxHeartbeats 4000000 in
theorem nameUnders_short (w : World) (hg : Glob w) (a b c : ByteArray) (hl : ¬ 300 < a.size + b.size + c.size) :
    Calls Tryd.prog 7 #[.string a, .string b, .string c] w fun e w' => e = .returned (.bool true) ∧ Below w.heap.size w w' := by
  have h1 : ¬ (300 : Int) < (a.size : Int) + (b.size : Int) + (c.size : Int) := by omega
  have sa : a.size < 90000 := by omega
  have sb : b.size < 90000 := by omega
  have sc : c.size < 90000 := by omega
  have h1a := under_anti a.data.toList b.data.toList
  have h2a := under_trans a.data.toList b.data.toList c.data.toList
  have h3a := under_few a.data.toList b.data.toList
  have h4a := under_kind a.data.toList b.data.toList
  have HG := Lib.hid hg
  clear hg hl
  have acc : Below w.heap.size w w := Below.refl _ _
  have arms : True := trivial
  cases hx : underOf a.data.toList b.data.toList with
  | false =>
    clear h1a h2a h3a h4a
    go_enter Tryd.func7, Tryd.ntmps7
    go_wp2_with (first
      | (go_at_call 19; refine (under_any _ _ _ (HG.out.below acc) (by assumption) (by assumption)).mono ?_; rintro e w2 ⟨rfl, hb⟩; replace acc := acc.trans (hb.mono acc.size); clear hb)
      | (go_at_call 14; refine (known_any _ (HG.out.below acc)).mono ?_; rintro e w2 ⟨rfl, hb⟩; replace acc := acc.trans (hb.mono acc.size); clear hb))
    go_ret
    exact ⟨rfl, acc⟩
  | true =>
    have h3 := h3a hx
    have h3z : ((betOf a.data.toList b.data.toList).length : Int) ≤ 4 := by omega
    have h4 := h4a hx
    have hkk : ((kindOf a.data.toList : Int) == (kindOf b.data.toList : Int)) = true := by rw [h4]; simp
    have hy : underOf b.data.toList a.data.toList = false := by
      cases hy : underOf b.data.toList a.data.toList
      · rfl
      · exact (h1a hx hy).elim
    clear h3a h4a h4 h3 h1a
    cases hz : underOf b.data.toList c.data.toList with
    | false =>
      clear h2a
      go_enter Tryd.func7, Tryd.ntmps7
      go_wp2_with (first
        | (go_at_call 19; refine (under_any _ _ _ (HG.out.below acc) (by assumption) (by assumption)).mono ?_; rintro e w2 ⟨rfl, hb⟩; replace acc := acc.trans (hb.mono acc.size); clear hb)
        | (go_at_call 20; refine (refkind_any _ _ (by assumption)).mono ?_; rintro e w2 ⟨rfl, hb⟩; replace acc := acc.trans (hb.mono acc.size); clear hb)
        | (go_at_call 13; refine (between_any _ _ _ (HG.out.below acc) (by assumption) (by assumption)).mono ?_; rintro e w2 ⟨ad, c, rfl, _, hb⟩; replace acc := acc.trans (hb.mono acc.size); clear hb)
        | (go_at_call 14; refine (known_any _ (HG.out.below acc)).mono ?_; rintro e w2 ⟨rfl, hb⟩; replace acc := acc.trans (hb.mono acc.size); clear hb))
      go_ret
      exact ⟨rfl, acc⟩
    | true =>
      have hu := h2a hx hz
      clear h2a
      go_enter Tryd.func7, Tryd.ntmps7
      go_wp2_with (first
        | (go_at_call 19; refine (under_any _ _ _ (HG.out.below acc) (by assumption) (by assumption)).mono ?_; rintro e w2 ⟨rfl, hb⟩; replace acc := acc.trans (hb.mono acc.size); clear hb)
        | (go_at_call 20; refine (refkind_any _ _ (by assumption)).mono ?_; rintro e w2 ⟨rfl, hb⟩; replace acc := acc.trans (hb.mono acc.size); clear hb)
        | (go_at_call 13; refine (between_any _ _ _ (HG.out.below acc) (by assumption) (by assumption)).mono ?_; rintro e w2 ⟨ad, c, rfl, _, hb⟩; replace acc := acc.trans (hb.mono acc.size); clear hb)
        | (go_at_call 14; refine (known_any _ (HG.out.below acc)).mono ?_; rintro e w2 ⟨rfl, hb⟩; replace acc := acc.trans (hb.mono acc.size); clear hb))
      go_ret
      exact ⟨rfl, acc⟩

theorem nameUnders_walk (a b c : ByteArray) (ha : a.size ≤ 140737488351232) (hb : b.size ≤ 140737488351232) (hc : c.size ≤ 140737488351232) (w : World) (hg : Glob w) :
    Calls Tryd.prog 7 #[.string a, .string b, .string c] w fun e w' => e = .returned (.bool true) ∧ Below w.heap.size w w' := by
  by_cases hl : 300 < a.size + b.size + c.size
  · exact nameUnders_long w a b c ha hb hc hl
  · exact nameUnders_short w hg a b c hl
end Go.Proofs.YtnifihnlmanpkaaDoor
