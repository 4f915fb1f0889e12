/-
  NameUnders: the walk of the law.
-/
import Derived.Test.YtcleonpckgfdhaaGreatDoorRefKind
set_option linter.unusedVariables false
set_option linter.unusedSimpArgs false
namespace Go.Proofs.YtcleonpckgfdhaaGreatDoor
open Go Go.RowKit Go.Lib Go.Shelf

theorem under_iff (a b : Str) : underOf a b = true ↔ kindOf a ≠ 0 ∧ kindOf a = kindOf b ∧ (labelsOf b).1.length < (labelsOf a).1.length ∧ (labelsOf a).1.take (labelsOf b).1.length = (labelsOf b).1 := by
  simp [underOf]

theorem under_anti (a b : Str) (h : underOf a b = true) (h' : underOf b a = true) : False := by
  have h1 := (under_iff a b).1 h
  have h2 := (under_iff b a).1 h'
  omega

theorem under_trans (a b c : Str) (h : underOf a b = true) (h' : underOf b c = true) : underOf a c = true := by
  have h1 := (under_iff a b).1 h
  have h2 := (under_iff b c).1 h'
  refine (under_iff a c).2 ⟨h1.1, h1.2.1.trans h2.2.1, by omega, ?_⟩
  have h3 := h2.2.2.2
  rw [← h1.2.2.2, List.take_take, Nat.min_eq_left (by omega)] at h3
  exact h3

theorem betOf_len (a b : Str) : (betOf a b).length ≤ ((labelsOf a).1.length - max (sameLen a b) 1) + ((labelsOf b).1.length - max (sameLen a b) 1) := by
  unfold betOf
  split
  · simp
  · have h1 := List.length_filter_le (fun x => !ends a b x) (dn (ups (labelsOf a).1 (kindOf a) (max (sameLen a b) 1 - 1)) (labelsOf b).1 (kindOf b) (max (sameLen a b) 1) ((labelsOf b).1.length - max (sameLen a b) 1))
    have h2 := dn_length (ups (labelsOf a).1 (kindOf a) (max (sameLen a b) 1 - 1)) (labelsOf b).1 (kindOf b) (max (sameLen a b) 1) ((labelsOf b).1.length - max (sameLen a b) 1)
    have h3 := ups_length (labelsOf a).1 (kindOf a) (max (sameLen a b) 1 - 1)
    unfold others
    omega

theorem betOf_six (a b : Str) : (betOf a b).length ≤ 6 := by
  have h := betOf_len a b
  have h1 := labels_len a
  have h2 := labels_len b
  omega

theorem under_few (a b : Str) (h : underOf a b = true) : (betOf a b).length ≤ 4 := by
  have h1 := (under_iff a b).1 h
  have h2 := betOf_len a b
  have h3 : (labelsOf b).1.length ≤ sameLen a b := by
    unfold sameLen
    rw [if_pos h1.2.1]
    exact comLen_of_take _ _ _ (by omega) (Nat.le_refl _) (by rw [h1.2.2.2, List.take_length])
  have h4 := labels_len a
  omega

theorem under_kind (a b : Str) (h : underOf a b = true) : kindOf a = kindOf b := ((under_iff a b).1 h).2.1

end Go.Proofs.YtcleonpckgfdhaaGreatDoor
