/-
  legatelaw6.known.
-/
import Derived.Test.YtjbdegcmolimoaaDoorTrIns
import Derived.Test.YtjbdegcmolimoaaDoorTexts
set_option linter.unusedVariables false
set_option linter.unusedSimpArgs false
namespace Go.Proofs.YtjbdegcmolimoaaDoor
open Go Go.RowKit Go.Lib Go.Shelf

theorem at_lit (w : World) (l : List Str) (hl : l.length ≤ 100) : At (w.alloc (.cells (strs l).toArray 9)) (some ⟨w.heap.size, 0, none⟩) l.length l :=
  At.owns (World.ownsRow_lit w (strs l).toArray l.length (Nat.le_refl _) (by unfold maxLen; omega) (by simp [strs_length]))

def kn1 : List Str := [[69, 68, 85], [77, 73, 84, 46, 69, 68, 85], [65, 84, 72, 69, 78, 65, 46, 77, 73, 84, 46, 69, 68, 85], [87, 65, 83, 72, 46, 69, 68, 85], [67, 83, 46, 87, 65, 83, 72, 46, 69, 68, 85]]
def kn2 : List Str := [[47, 67, 79, 77], [47, 67, 79, 77, 47, 72, 80], [47, 67, 79, 77, 47, 72, 80, 47, 65, 80, 79, 76, 76, 79], [47, 67, 79, 77, 47, 68, 69, 67]]

set_option maxHeartbeats 2000000 in
theorem known_any (w : World) (hg : Glob w) : Calls Tryd.prog 18 #[] w fun e w' => e = .returned (.bool true) ∧ Below w.heap.size w w' := by
  have HG := Lib.hid hg
  clear hg
  have e1 : expandOf (⟨#[69, 68, 85, 44, 77, 73, 84, 46, 44, 65, 84, 72, 69, 78, 65, 46, 44, 87, 65, 83, 72, 46, 69, 68, 85, 44, 67, 83, 46]⟩ : ByteArray).data.toList (⟨#[65]⟩ : ByteArray).data.toList (⟨#[66]⟩ : ByteArray).data.toList = (kn1, 0) := known1
  have e2 : expandOf (⟨#[47, 67, 79, 77, 44, 47, 72, 80, 44, 47, 65, 80, 79, 76, 76, 79, 44, 32, 47, 67, 79, 77, 47, 68, 69, 67]⟩ : ByteArray).data.toList (⟨#[65]⟩ : ByteArray).data.toList (⟨#[66]⟩ : ByteArray).data.toList = (kn2, 0) := known2
  have E1 := Lib.hid e1
  have E2 := Lib.hid e2
  clear e1 e2
  have acc : Below w.heap.size w w := Below.refl _ _
  have tok : True := trivial
  have tok2 : True := trivial
  go_enter Tryd.func18, Tryd.ntmps18
  go_wp2_with (first
    | (go_at_call 17; have _t := tok; clear tok; refine (expand_any _ _ _ _ (HG.out.below acc) (by decide) (by decide) (by decide)).mono ?_; rintro e w2 ⟨ad1, c1, rfl, ho, hb⟩; rw [E1.out] at ho ⊢; replace acc := acc.trans (hb.mono acc.size); have HA1 := At.owns ho; clear hb ho)
    | (go_at_call 17; refine (expand_any _ _ _ _ (HG.out.below acc) (by decide) (by decide) (by decide)).mono ?_; rintro e w3 ⟨ad2, c2, rfl, ho, hb⟩; rw [E2.out] at ho ⊢; replace acc := acc.trans (hb.mono acc.size); have HA2 := At.owns ho; replace HA1 := HA1.below hb; clear hb ho)
    | (go_at_call 19; have _t := tok2; clear tok2; refine (texts_any _ _ _ _ _ _ _ kn1 kn1 (HA1.below ((Below.refl _ _).alloc (Nat.le_refl _) _)) (at_lit _ kn1 (by decide)) (by decide) (by decide)).mono ?_; rintro e w4 ⟨rfl, hb⟩; rw [decide_eq_true (rfl : kn1 = kn1)]; have HA3 := (HA2.below ((Below.refl _ _).alloc (Nat.le_refl _) _)).below hb; replace acc := (acc.alloc acc.size _).trans (hb.mono (Nat.le_trans acc.size (by simp))); clear hb)
    | (go_at_call 19; refine (texts_any _ _ _ _ _ _ _ kn2 kn2 (HA3.below ((Below.refl _ _).alloc (Nat.le_refl _) _)) (at_lit _ kn2 (by decide)) (by decide) (by decide)).mono ?_; rintro e w5 ⟨rfl, hb⟩; rw [decide_eq_true (rfl : kn2 = kn2)]; replace acc := (acc.alloc acc.size _).trans (hb.mono (Nat.le_trans acc.size (by simp))); clear hb))
  go_ret
  exact ⟨rfl, acc⟩
end Go.Proofs.YtjbdegcmolimoaaDoor
