/-
  The way: its realms are realms, none comes twice, each is one step from the one ahead, or both are tops.
-/
import Derived.Test.YtcleonpckgfdhaaGreatDoorWayText
import Derived.Test.YtcleonpckgfdhaaGreatDoorRealm
set_option linter.unusedVariables false
set_option linter.unusedSimpArgs false
namespace Go.Proofs.YtcleonpckgfdhaaGreatDoor

theorem good_short {L : List Str} {K : Nat} (h : Good L K) : (realmOf L K).length ≤ 37 := by
  have h8 : ∀ x ∈ L, x.length ≤ 8 := fun x hx => (word_up (h.word x hx)).2.1
  have h4 := h.few
  unfold realmOf
  rw [if_neg h.ne]
  split
  · have := joinOn_length 47 L h8
    simp only [List.length_cons]
    omega
  · have := joinOn_length 46 L.reverse (fun x hx => h8 x (by simpa using hx))
    simp only [List.length_reverse] at this
    omega
theorem isR_good {L : List Str} {K : Nat} (h : Good L K) : isR (realmOf L K) = true := by
  unfold isR
  rw [kind_realm h]
  rcases h.kind with rfl | rfl <;> rfl
theorem isR_short {r : Str} (h : isR r = true) : r.length ≤ 37 := by
  have hk : kindOf r ≠ 0 := by
    unfold isR at h
    simpa using h
  obtain ⟨hG, he, _⟩ := good_of_kind hk
  rw [← he]
  exact good_short hG

section
variable {a b : Str} {L M : List Str} {K J c : Nat}

theorem way_cases (h : Pair a b L M K J c) {t : Nat} (ht : t < (wayOf L M K J c).length) :
    (t ≤ L.length - max c 1 ∧ (wayOf L M K J c)[t]! = realmOf (L.take (L.length - t)) K) ∨ ∃ i, t = L.length - max c 1 + 1 + i ∧ i < M.length - c ∧ (wayOf L M K J c)[t]! = realmOf (M.take (c + 1 + i)) J := by
  rw [way_len] at ht
  by_cases h1 : t ≤ L.length - max c 1
  · exact .inl ⟨h1, way_left L M K J c t h1⟩
  · refine .inr ⟨t - (L.length - max c 1 + 1), by omega, by omega, ?_⟩
    have := way_right L M K J c (t - (L.length - max c 1 + 1)) (by omega)
    rw [show L.length - max c 1 + 1 + (t - (L.length - max c 1 + 1)) = t by omega] at this
    exact this

theorem way_isR (h : Pair a b L M K J c) {t : Nat} (ht : t < (wayOf L M K J c).length) : isR (wayOf L M K J c)[t]! = true := by
  have hle := h.le
  have hL1 : 1 ≤ L.length := List.length_pos_iff.2 h.ga.ne
  rcases way_cases h ht with ⟨h1, e⟩ | ⟨i, h1, h2, e⟩ <;> rw [e]
  · exact isR_good (h.ga.take (by omega))
  · exact isR_good (h.gb.take (by omega))

theorem way_apart (h : Pair a b L M K J c) {k i : Nat} (hk : k < i) (hi : i < (wayOf L M K J c).length) : (wayOf L M K J c)[k]! ≠ (wayOf L M K J c)[i]! := by
  have hle := h.le
  have hL1 : 1 ≤ L.length := List.length_pos_iff.2 h.ga.ne
  intro e
  rcases way_cases h (t := k) (by omega) with ⟨h1, e1⟩ | ⟨p, h1, h2, e1⟩
  · rcases way_cases h hi with ⟨h3, e3⟩ | ⟨q, h3, h4, e3⟩
    · rw [e1, e3] at e
      have := self_of h.ga (by omega) (by omega) (by omega) (by omega) e
      omega
    · rw [e1, e3] at e
      have := h.meet (by omega) (by omega) (by omega) (by omega) e
      omega
  · rcases way_cases h hi with ⟨h3, e3⟩ | ⟨q, h3, h4, e3⟩
    · omega
    · rw [e1, e3] at e
      have := self_of h.gb (by omega) (by omega) (by omega) (by omega) e
      omega

theorem way_step (h : Pair a b L M K J c) {i : Nat} (h1 : 1 ≤ i) (hi : i < (wayOf L M K J c).length) :
    upOf (wayOf L M K J c)[i]! = (wayOf L M K J c)[i - 1]! ∨ upOf (wayOf L M K J c)[i - 1]! = (wayOf L M K J c)[i]! ∨ (upOf (wayOf L M K J c)[i]! = [] ∧ upOf (wayOf L M K J c)[i - 1]! = []) := by
  have hle := h.le
  have hL1 : 1 ≤ L.length := List.length_pos_iff.2 h.ga.ne
  rcases way_cases h hi with ⟨h3, e3⟩ | ⟨q, h3, h4, e3⟩
  · rcases way_cases h (t := i - 1) (by omega) with ⟨h5, e5⟩ | ⟨q, h5, h6, e5⟩
    · right; left
      rw [e3, e5, up_anc h.ga (by omega) (by omega), show L.length - (i - 1) - 1 = L.length - i by omega]
    · omega
  · rcases way_cases h (t := i - 1) (by omega) with ⟨h5, e5⟩ | ⟨q', h5, h6, e5⟩
    · have hq : q = 0 := by omega
      subst hq
      by_cases hc : 1 ≤ c
      · left
        rw [e3, e5, up_anc h.gb (by omega) (by omega), show c + 1 + 0 - 1 = c by omega, show L.length - (i - 1) = c by omega, h.take (Nat.le_refl c), h.kind hc]
      · right; right
        have hc0 : c = 0 := by omega
        rw [e3, e5, up_anc h.gb (by omega) (by omega), up_anc h.ga (by omega) (by omega), show c + 1 + 0 - 1 = 0 by omega, show L.length - (i - 1) - 1 = 0 by omega]
        exact ⟨rfl, rfl⟩
    · left
      rw [e3, e5, up_anc h.gb (by omega) (by omega), show c + 1 + q - 1 = c + 1 + q' by omega]
end
end Go.Proofs.YtcleonpckgfdhaaGreatDoor
