/-
  route.isPath, Is.
-/
import Derived.Test.YtcleonpckgfdhaaGreatDoorRtApp
import Derived.Test.YtcleonpckgfdhaaGreatDoorSmall
set_option linter.unusedVariables false
set_option linter.unusedSimpArgs false
set_option maxRecDepth 100000
namespace Go.Proofs.YtcleonpckgfdhaaGreatDoor
open Go Go.RowKit Go.Lib Go.Shelf

theorem beq_left (x : Str) (b : ByteArray) : (x == b.toList) = decide (x = b.data.toList) := by
  rw [ByteArray.toList_eq, Bool.eq_iff_iff]; simp
theorem beq_right (x : Str) (b : ByteArray) : (b.toList == x) = decide (b.data.toList = x) := by
  rw [ByteArray.toList_eq, Bool.eq_iff_iff]; simp
theorem beq_both (x y : Str) : (x == y) = decide (x = y) := by
  rw [Bool.eq_iff_iff]; simp
theorem eq_left (x : Str) (b : ByteArray) : ((⟨x.toArray⟩ : ByteArray).toList == b.toList) = decide (x = b.data.toList) := eq_bytes _ _
theorem eq_both (x y : Str) : ((⟨x.toArray⟩ : ByteArray).toList == (⟨y.toArray⟩ : ByteArray).toList) = decide (x = y) := eq_bytes _ _

def viaBad (R : List Str) (f t x : Str) : Bool := !decide (x ∈ R) || (decide (x = f) || decide (x = t))
theorem viaBad_any (W : World) (p q : Nat) (ar : Option Addr) (nr cr : Nat) (R : List Str) (f t : ByteArray) (x : Str) (hA : At W ar nr R) (hn : nr ≤ 100000) (hp : W.cell? ⟨p, 0, none⟩ = some (.slice ar nr cr)) (h0 : W.cell? ⟨q, 0, none⟩ = some (.string f)) (h1 : W.cell? ⟨q, 1, none⟩ = some (.string t)) :
    Calls Tryz.prog 60 #[.string ⟨x.toArray⟩, .pointer (some ⟨p, 0, none⟩), .pointer (some ⟨q, 0, none⟩)] W fun e w' => e = .returned (.bool (viaBad R f.data.toList t.data.toList x)) ∧ Below W.heap.size W w' := by
  have hC := contains_any W ar nr cr R x hA hn
  have kf := eq_left x f
  have kf2 := beq_left x f
  have kt := eq_left x t
  have kt2 := beq_left x t
  unfold viaBad
  clear hA
  by_cases hx : x ∈ R
  · rw [decide_eq_true hx] at hC ⊢
    clear hx
    by_cases hf : x = f.data.toList
    · rw [decide_eq_true hf] at kf kf2 ⊢
      clear hf kt kt2
      go_enter Tryz.func60, Tryz.ntmps60
      go_wp2_with (go_at_call 25; refine hC.mono ?_; rintro e w2 ⟨rfl, h2⟩; replace h2 := h2.symm; subst h2)
      go_ret
      exact ⟨rfl, Below.refl _ _⟩
    · rw [decide_eq_false hf] at kf kf2 ⊢
      clear hf
      cases ht : decide (x = t.data.toList) <;> (
        rw [ht] at kt kt2
        clear ht
        go_enter Tryz.func60, Tryz.ntmps60
        go_wp2_with (go_at_call 25; refine hC.mono ?_; rintro e w2 ⟨rfl, h2⟩; replace h2 := h2.symm; subst h2)
        go_ret
        exact ⟨rfl, Below.refl _ _⟩)
  · rw [decide_eq_false hx] at hC ⊢
    clear hx kf kf2 kt kt2
    go_enter Tryz.func60, Tryz.ntmps60
    go_wp2_with (go_at_call 25; refine hC.mono ?_; rintro e w2 ⟨rfl, h2⟩; replace h2 := h2.symm; subst h2)
    go_ret
    exact ⟨rfl, Below.refl _ _⟩

def linkBad (R : List Str) (x : Link) : Bool := !decide (x.1 ∈ R) || (!decide (x.2 ∈ R) || decide (x.1 = x.2))
theorem linkBad_any (W : World) (p : Nat) (ar : Option Addr) (nr cr : Nat) (R : List Str) (x : Link) (hA : At W ar nr R) (hn : nr ≤ 100000) (hpl : p < W.heap.size) (hp : W.cell? ⟨p, 0, none⟩ = some (.slice ar nr cr)) :
    Calls Tryz.prog 49 #[.agg #[.string ⟨x.1.toArray⟩, .string ⟨x.2.toArray⟩], .pointer (some ⟨p, 0, none⟩)] W fun e w' => e = .returned (.bool (linkBad R x)) ∧ Below W.heap.size W w' := by
  obtain ⟨a, b⟩ := x
  have acc : Below W.heap.size W (W.alloc (.cells #[.string ⟨a.toArray⟩, .string ⟨b.toArray⟩] 39)) := (Below.refl _ _).alloc (Nat.le_refl _) _
  have HA := Lib.hid (hA.below acc)
  have kab := eq_both a b
  have kab2 := beq_both a b
  have hne : p ≠ W.heap.size := by omega
  have tok : True := trivial
  unfold linkBad
  simp only
  clear hA
  by_cases ha : a ∈ R
  · have hda := decide_eq_true ha
    rw [hda]
    by_cases hb : b ∈ R
    · have hdb := decide_eq_true hb
      rw [hdb]
      cases hab : decide (a = b) <;> (
        rw [hab] at kab kab2
        clear ha hb hab
        go_enter Tryz.func49, Tryz.ntmps49
        go_wp2_with (first
          | (go_at_call 25; have _t := tok; refine (contains_any _ _ _ _ R a HA.out hn).mono ?_; rintro e w2 ⟨rfl, h2⟩; rw [hda]; replace h2 := h2.symm; subst h2; clear tok)
          | (go_at_call 25; refine (contains_any _ _ _ _ R b HA.out hn).mono ?_; rintro e w2 ⟨rfl, h2⟩; rw [hdb]; replace h2 := h2.symm; subst h2))
        go_ret
        exact ⟨rfl, acc⟩)
    · have hdb := decide_eq_false hb
      rw [hdb]
      clear ha hb kab kab2
      go_enter Tryz.func49, Tryz.ntmps49
      go_wp2_with (first
        | (go_at_call 25; have _t := tok; refine (contains_any _ _ _ _ R a HA.out hn).mono ?_; rintro e w2 ⟨rfl, h2⟩; rw [hda]; replace h2 := h2.symm; subst h2; clear tok)
        | (go_at_call 25; refine (contains_any _ _ _ _ R b HA.out hn).mono ?_; rintro e w2 ⟨rfl, h2⟩; rw [hdb]; replace h2 := h2.symm; subst h2))
      go_ret
      exact ⟨rfl, acc⟩
  · have hda := decide_eq_false ha
    rw [hda]
    clear ha kab kab2
    go_enter Tryz.func49, Tryz.ntmps49
    go_wp2_with (go_at_call 25; have _t := tok; refine (contains_any _ _ _ _ R a HA.out hn).mono ?_; rintro e w2 ⟨rfl, h2⟩; rw [hda]; replace h2 := h2.symm; subst h2; clear tok)
    go_ret
    exact ⟨rfl, acc⟩

theorem notRealm_any (W : World) (x : Str) (hg : Glob W) (hx : x.length < 90000) : Calls Tryz.prog 51 #[.string ⟨x.toArray⟩] W fun e w' => e = .returned (.bool (!isR x)) ∧ Below W.heap.size W w' := by
  have hI := is_any W ⟨x.toArray⟩ hg hx
  rw [show (⟨x.toArray⟩ : ByteArray).data.toList = x from rfl] at hI
  go_enter Tryz.func51, Tryz.ntmps51
  go_wp2_with (go_at_call 52; refine hI.mono ?_; rintro e w' ⟨rfl, hb⟩)
  go_ret
  exact ⟨rfl, hb⟩
end Go.Proofs.YtcleonpckgfdhaaGreatDoor
