/-
  The whole way from one realm to another.
-/
import Derived.Test.YtcleonpckgfdhaaGreatDoorPath2
set_option linter.unusedVariables false
set_option linter.unusedSimpArgs false
namespace Go.Proofs.YtcleonpckgfdhaaGreatDoor

/-- The way: down from a's labels to the least that is alike (or one), then up b's. -/
def wayOf (L M : List Str) (K J c : Nat) : List Str :=
  ((List.range (L.length - max c 1 + 1)).map fun i => realmOf (L.take (L.length - i)) K) ++ (List.range (M.length - c)).map fun i => realmOf (M.take (c + 1 + i)) J

theorem way_len (L M : List Str) (K J c : Nat) : (wayOf L M K J c).length = L.length - max c 1 + 1 + (M.length - c) := by simp [wayOf]
theorem way_left (L M : List Str) (K J c i : Nat) (h : i ≤ L.length - max c 1) : (wayOf L M K J c)[i]! = realmOf (L.take (L.length - i)) K := by
  have hl := way_len L M K J c
  rw [getElem!_pos _ i (by omega)]
  unfold wayOf
  rw [List.getElem_append_left (by simp; omega), List.getElem_map, List.getElem_range]
theorem way_right (L M : List Str) (K J c i : Nat) (h : i < M.length - c) : (wayOf L M K J c)[L.length - max c 1 + 1 + i]! = realmOf (M.take (c + 1 + i)) J := by
  have hl := way_len L M K J c
  rw [getElem!_pos _ _ (by omega)]
  unfold wayOf
  rw [List.getElem_append_right (by simp), List.getElem_map, List.getElem_range]
  congr 2
  simp

section
variable {a b : Str} {L M : List Str} {K J c : Nat}

theorem chainA (hL : L ≠ []) (hm : 1 ≤ c) (hc : c < L.length) : (List.range (L.length - c + 1)).map (fun i => realmOf (L.take (L.length - i)) K) = realmOf L K :: (ups L K c ++ [realmOf (L.take c) K]) := by
  obtain ⟨n, hn⟩ : ∃ n, L.length - c = n + 1 := ⟨L.length - c - 1, by omega⟩
  rw [hn, List.range_succ, List.range_succ_eq_map]
  rw [List.map_append, List.map_cons, List.map_map]
  simp only [List.map_cons, List.map_nil, List.cons_append, Nat.sub_zero, List.take_length]
  congr 2
  · unfold ups
    rw [show L.length - 1 - c = n by omega]
    apply List.map_congr_left
    intro i _
    simp only [Function.comp]
    congr 2
    omega
  · congr 2
    congr 1
    omega

theorem chain_up' (hL : L ≠ []) : (List.range L.length).map (fun i => realmOf (L.take (L.length - i)) K) = realmOf L K :: ups L K 0 := by
  have h1 : 1 ≤ L.length := List.length_pos_iff.2 hL
  obtain ⟨n, hn⟩ : ∃ n, L.length = n + 1 := ⟨L.length - 1, by omega⟩
  unfold ups
  rw [hn, List.range_succ_eq_map, List.map_cons, List.map_map]
  congr 1
  · rw [Nat.sub_zero, ← hn, List.take_length]
  · simp only [Nat.add_sub_cancel, Nat.sub_zero]
    apply List.map_congr_left
    intro i _
    simp only [Function.comp]
    congr 2
    omega

theorem chainB (hM : M ≠ []) (hc : c < M.length) : (List.range (M.length - c)).map (fun i => realmOf (M.take (c + 1 + i)) J) = downs M J (c + 1) ++ [realmOf M J] := by
  obtain ⟨n, hn⟩ : ∃ n, M.length - c = n + 1 := ⟨M.length - c - 1, by omega⟩
  unfold downs
  rw [hn, List.range_succ, List.map_append, show M.length - (c + 1) = n by omega]
  simp only [List.map_cons, List.map_nil]
  congr 2
  rw [show c + 1 + n = M.length by omega, List.take_length]

theorem Pair.way (h : Pair a b L M K J c) (hne : a ≠ b) : [a] ++ (ups L K c ++ (mid L M K c ++ downs M J (c + 1))) ++ [b] = wayOf L M K J c := by
  have hle := h.le
  have hL1 : 1 ≤ L.length := List.length_pos_iff.2 h.ga.ne
  have hM1 : 1 ≤ M.length := List.length_pos_iff.2 h.gb.ne
  unfold wayOf
  by_cases hc : c = 0
  · subst hc
    have e1 : L.length - max 0 1 + 1 = L.length := by omega
    have e2 : mid L M K 0 = [] := by unfold mid; rw [if_neg (by omega)]
    rw [e1, e2, chain_up' h.ga.ne, chainB h.gb.ne (by omega), h.ea, h.eb]
    simp
  · have e0 : max c 1 = c := by omega
    rw [e0]
    by_cases hcL : c < L.length
    · rw [chainA h.ga.ne (by omega) hcL, h.ea]
      by_cases hcM : c < M.length
      · have e2 : mid L M K c = [realmOf (L.take c) K] := by unfold mid; rw [if_pos ⟨by omega, hcL, hcM⟩]
        rw [e2, chainB h.gb.ne hcM, h.eb]
        simp
      · have hcm : c = M.length := by omega
        have e2 : mid L M K c = [] := by unfold mid; rw [if_neg (by omega)]
        have e3 : downs M J (c + 1) = [] := by unfold downs; rw [show M.length - (c + 1) = 0 by omega]; rfl
        have e4 : realmOf (L.take c) K = b := by
          rw [h.take (Nat.le_refl c), hcm, List.take_length, h.kind (by omega)]
          exact h.eb
        rw [e2, e3, e4, show M.length - c = 0 by omega]
        simp
    · have hcl : c = L.length := by omega
      have hcM : c < M.length := by
        rcases Nat.lt_or_ge c M.length with h1 | h1
        · exact h1
        · exfalso
          apply hne
          rw [← h.ea, ← h.eb, ← h.kind (by omega)]
          have := h.take (Nat.le_refl c)
          rw [hcl, List.take_length, List.take_of_length_le (by omega)] at this
          rw [this]
      have e2 : mid L M K c = [] := by unfold mid; rw [if_neg (by omega)]
      have e3 : ups L K c = [] := by unfold ups; rw [show L.length - 1 - c = 0 by omega]; rfl
      rw [e2, e3, chainB h.gb.ne hcM, h.eb, show L.length - c + 1 = 1 by omega]
      simp [h.ea]

end
end Go.Proofs.YtcleonpckgfdhaaGreatDoor
