/-
  NameTops: the walk of the law.
-/
import Derived.Test.YtcleonpckgfdhaaGreatDoorRefUnder
import Derived.Test.YtcleonpckgfdhaaGreatDoorApp2
set_option linter.unusedVariables false
set_option linter.unusedSimpArgs false
namespace Go.Proofs.YtcleonpckgfdhaaGreatDoor
open Go Go.RowKit Go.Lib Go.Shelf

theorem chain_up {L : List Str} {K : Nat} (hL : L ≠ []) : realmOf L K :: ups L K 0 = (List.range L.length).map fun i => realmOf (L.take (L.length - i)) K := by
  have h1 : 1 ≤ L.length := List.length_pos_iff.2 hL
  obtain ⟨n, hn⟩ : ∃ n, L.length = n + 1 := ⟨L.length - 1, by omega⟩
  unfold ups
  rw [hn, List.range_succ_eq_map, List.map_cons, List.map_map]
  congr 1
  · rw [Nat.sub_zero, ← hn, List.take_length]
  · simp only [Nat.add_sub_cancel, Nat.sub_zero]
    apply List.map_congr_left
    intro i _
    simp only [Function.comp]
    congr 2
    omega
theorem chain_down {M : List Str} {J : Nat} (hM : M ≠ []) : downs M J 1 ++ [realmOf M J] = (List.range M.length).map fun i => realmOf (M.take (1 + i)) J := by
  have h1 : 1 ≤ M.length := List.length_pos_iff.2 hM
  obtain ⟨n, hn⟩ : ∃ n, M.length = n + 1 := ⟨M.length - 1, by omega⟩
  unfold downs
  rw [hn, List.range_succ, List.map_append]
  simp only [Nat.add_sub_cancel, List.map_cons, List.map_nil]
  congr 2
  rw [show 1 + n = M.length by omega, List.take_length]

theorem tops_path {a b : Str} (ha : kindOf a ≠ 0) (hb : kindOf b ≠ 0) (hne : realmOf ((labelsOf a).1.take 1) (kindOf a) ≠ realmOf ((labelsOf b).1.take 1) (kindOf b)) :
    (labelsOf a).1.length < ([a] ++ betOf a b ++ [b]).length ∧ ([a] ++ betOf a b ++ [b])[(labelsOf a).1.length - 1]! = realmOf ((labelsOf a).1.take 1) (kindOf a) ∧ ([a] ++ betOf a b ++ [b])[(labelsOf a).1.length]! = realmOf ((labelsOf b).1.take 1) (kindOf b) := by
  have hP := pair_of ha hb
  have hc : sameLen a b = 0 := by
    rcases Nat.eq_zero_or_pos (sameLen a b) with h | h
    · exact h
    · exact absurd (by rw [hP.take (j := 1) h, hP.kind h]) hne
  have hB := betOf_eq ha hb
  rw [hc] at hB
  have hm : mid (labelsOf a).1 (labelsOf b).1 (kindOf a) 0 = [] := by unfold mid; rw [if_neg (by omega)]
  rw [hm, List.nil_append] at hB
  have e : [a] ++ betOf a b ++ [b] = ((List.range (labelsOf a).1.length).map fun i => realmOf ((labelsOf a).1.take ((labelsOf a).1.length - i)) (kindOf a)) ++ ((List.range (labelsOf b).1.length).map fun i => realmOf ((labelsOf b).1.take (1 + i)) (kindOf b)) := by
    rw [← chain_up hP.ga.ne, ← chain_down hP.gb.ne, hP.ea, hP.eb, hB]
    simp
  have h1 : 1 ≤ (labelsOf a).1.length := List.length_pos_iff.2 hP.ga.ne
  have h2 : 1 ≤ (labelsOf b).1.length := List.length_pos_iff.2 hP.gb.ne
  rw [e]
  have hl : (((List.range (labelsOf a).1.length).map fun i => realmOf ((labelsOf a).1.take ((labelsOf a).1.length - i)) (kindOf a)) ++ ((List.range (labelsOf b).1.length).map fun i => realmOf ((labelsOf b).1.take (1 + i)) (kindOf b))).length = (labelsOf a).1.length + (labelsOf b).1.length := by simp
  refine ⟨by omega, ?_, ?_⟩
  · rw [getElem!_pos _ _ (by omega), List.getElem_append_left (by simp; omega), List.getElem_map, List.getElem_range]
    congr 2
    omega
  · rw [getElem!_pos _ _ (by omega), List.getElem_append_right (by simp), List.getElem_map, List.getElem_range]
    congr 2
    simp

/-- One step up from a text that reads as the realm of L's first j labels. -/
theorem up_step {L : List Str} {K : Nat} (hG : Good L K) {j : Nat} (h1 : 1 ≤ j) (h2 : j ≤ L.length) {r : ByteArray} (hr : r.data.toList = realmOf (L.take j) K) :
    (1 < j → ∃ r' : ByteArray, (⟨(upOf r.data.toList).toArray⟩ : ByteArray) = r' ∧ r'.data.toList = realmOf (L.take (j - 1)) K ∧ r'.toList.isEmpty = false) ∧ (j = 1 → (⟨(upOf r.data.toList).toArray⟩ : ByteArray) = ⟨#[]⟩) := by
  have hu := up_anc hG h1 h2
  rw [hr, hu]
  refine ⟨fun hj => ⟨_, rfl, rfl, ?_⟩, fun hj => ?_⟩
  · rw [toList_data]
    simpa using realm_ne (hG.take (j := j - 1) (by omega))
  · subst hj
    rfl

theorem anc_size {L : List Str} {K : Nat} (hG : Good L K) {j : Nat} (h1 : 1 ≤ j) (h2 : j ≤ L.length) {r a : ByteArray} (hr : r.data.toList = realmOf (L.take j) K) (ha : realmOf L K = a.data.toList) (sa : a.size < 90000) : r.size < 90000 := by
  have e1 : r.data.toList.length = r.size := rfl
  have e2 : a.data.toList.length = a.size := rfl
  rcases Nat.lt_or_ge j L.length with h | h
  · have := len_anc hG h1 h
    rw [ha] at this
    rw [hr] at e1
    omega
  · have : j = L.length := by omega
    subst this
    rw [hr, List.take_length, ha] at e1
    omega

end Go.Proofs.YtcleonpckgfdhaaGreatDoor
