/-
  Above and below; what stands between two realms, written out.
-/
import Derived.Test.YtcleonpckgfdhaaGreatDoorPath
set_option linter.unusedVariables false
set_option linter.unusedSimpArgs false
namespace Go.Proofs.YtcleonpckgfdhaaGreatDoor

theorem up_anc {L : List Str} {K : Nat} (h : Good L K) {j : Nat} (h1 : 1 ≤ j) (h2 : j ≤ L.length) : upOf (realmOf (L.take j) K) = realmOf (L.take (j - 1)) K := by
  have hg := h.take (j := j) (by omega)
  unfold upOf
  rw [kind_realm hg, if_neg hg.kind_ne, labels_realm hg]
  simp only
  rw [List.dropLast_eq_take, List.length_take, List.take_take]
  congr 2
  omega

theorem anc_all (L : List Str) (K : Nat) : realmOf (L.take L.length) K = realmOf L K := by rw [List.take_length]

theorem under_anc {L : List Str} {K : Nat} (h : Good L K) {j : Nat} (h1 : 1 ≤ j) (h2 : j < L.length) : underOf (realmOf L K) (realmOf (L.take j) K) = true := by
  have hg := h.take (j := j) (by omega)
  unfold underOf
  rw [kind_realm h, kind_realm hg, labels_realm h, labels_realm hg]
  have hl : (L.take j).length = j := by simp; omega
  rw [hl]
  simp [h.kind_ne, h2]

theorem joinLen (c : UInt8) (l : List Str) (hl : l ≠ []) : (joinOn c l).length + 1 = (l.map fun x => x.length + 1).sum := by
  induction l with
  | nil => exact absurd rfl hl
  | cons x r ih =>
    by_cases hr : r = []
    · subst hr; simp [joinOn]
    · rw [joinOn_cons c x r hr]
      have := ih hr
      simp only [List.length_append, List.length_cons, List.map_cons, List.sum_cons]
      omega

theorem sum_reverse (l : List Str) : (l.reverse.map fun x => x.length + 1).sum = (l.map fun x => x.length + 1).sum := by
  induction l with
  | nil => rfl
  | cons x r ih => simp only [List.reverse_cons, List.map_append, List.map_cons, List.map_nil, List.sum_append, List.sum_cons, List.sum_nil, ih]; omega

theorem realmLen {L : List Str} {K : Nat} (hL : L ≠ []) : (realmOf L K).length = (if K = 2 then 1 else 0) + ((L.map fun x => x.length + 1).sum - 1) := by
  unfold realmOf
  rw [if_neg hL]
  by_cases hk : K = 2
  · rw [if_pos hk, if_pos hk]
    have := joinLen 47 L hL
    simp only [List.length_cons]; omega
  · rw [if_neg hk, if_neg hk]
    have := joinLen 46 L.reverse (by simpa using hL)
    rw [sum_reverse] at this
    omega

theorem len_anc {L : List Str} {K : Nat} (h : Good L K) {j : Nat} (h1 : 1 ≤ j) (h2 : j < L.length) : (realmOf (L.take j) K).length < (realmOf L K).length := by
  rw [realmLen (h.take (j := j) (by omega)).ne, realmLen h.ne]
  have e : L.map (fun x => x.length + 1) = (L.take j).map (fun x => x.length + 1) ++ (L.drop j).map (fun x => x.length + 1) := by rw [← List.map_append, List.take_append_drop]
  have e2 : ((L.drop j).map fun x => x.length + 1).sum ≥ 1 := by
    cases hd : L.drop j with
    | nil => rw [List.drop_eq_nil_iff] at hd; omega
    | cons x r => simp; omega
  have e3 : ((L.take j).map fun x => x.length + 1).sum ≥ 1 := by
    cases hd : L.take j with
    | nil => exact absurd hd (h.take (j := j) (by omega)).ne
    | cons x r => simp; omega
  rw [e, List.sum_append]
  omega

/-- The realms of m's first lo, lo + 1, .. labels, but for all of them. -/
def downs (M : List Str) (J lo : Nat) : List Str := (List.range (M.length - lo)).map fun i => realmOf (M.take (lo + i)) J

theorem dn_skip (out M : List Str) (J lo n : Nat) (h : realmOf (M.take lo) J ∈ out) : dn out M J lo (n + 1) = dn out M J (lo + 1) n := by
  induction n with
  | zero => rw [dn]; simp [dn, h]
  | succ n ih =>
    rw [dn, ih]
    conv => rhs; rw [dn]
    rw [show lo + (n + 1) = lo + 1 + n by omega]
theorem dn_first (out M : List Str) (J lo n : Nat) (h : realmOf (M.take lo) J ∉ out) : dn out M J lo (n + 1) = dn (out ++ [realmOf (M.take lo) J]) M J (lo + 1) n := by
  induction n with
  | zero => rw [dn]; simp [dn, h]
  | succ n ih =>
    rw [dn, ih]
    conv => rhs; rw [dn]
    rw [show lo + (n + 1) = lo + 1 + n by omega]
theorem dn_fresh (M : List Str) (J : Nat) (hM : Good M J) : ∀ (n lo : Nat) (out : List Str), 1 ≤ lo → lo + n ≤ M.length → (∀ i, i < n → realmOf (M.take (lo + i)) J ∉ out) → dn out M J lo n = out ++ (List.range n).map fun i => realmOf (M.take (lo + i)) J := by
  intro n
  induction n with
  | zero => intros; simp [dn]
  | succ n ih =>
    intro lo out h1 h2 h
    rw [dn_first out M J lo n (h 0 (by omega)), ih (lo + 1) _ (by omega) (by omega) ?_]
    · rw [List.range_succ_eq_map, List.map_cons, List.map_map, List.append_assoc]
      congr 1
      simp only [List.singleton_append, Nat.add_zero]
      congr 1
      apply List.map_congr_left
      intro i _
      simp only [Function.comp]
      rw [show lo + 1 + i = lo + (i + 1) by omega]
    · intro i hi hm
      rcases List.mem_append.1 hm with hm | hm
      · exact h (i + 1) (by omega) (by rw [show lo + (i + 1) = lo + 1 + i by omega]; exact hm)
      · simp only [List.mem_singleton] at hm
        have := (realm_inj (hM.take (j := lo + 1 + i) (by omega)) (hM.take (j := lo) (by omega)) hm).1
        have := congrArg List.length this
        simp at this
        omega

/-- The middle. -/
def mid (L M : List Str) (K c : Nat) : List Str := if 1 ≤ c ∧ c < L.length ∧ c < M.length then [realmOf (L.take c) K] else []

theorem mem_ups {L : List Str} {K n : Nat} {r : Str} (h : r ∈ ups L K n) : ∃ j, n < j ∧ j < L.length ∧ r = realmOf (L.take j) K := by
  simp only [ups, List.mem_map, List.mem_range] at h
  obtain ⟨i, hi, rfl⟩ := h
  exact ⟨L.length - 1 - i, by omega, by omega, rfl⟩
theorem mem_downs {M : List Str} {J lo : Nat} {r : Str} (h : r ∈ downs M J lo) : ∃ j, lo ≤ j ∧ j < M.length ∧ r = realmOf (M.take j) J := by
  simp only [downs, List.mem_map, List.mem_range] at h
  obtain ⟨i, hi, rfl⟩ := h
  exact ⟨lo + i, by omega, by omega, rfl⟩

theorem others_id {a b : Str} {l : List Str} (h : ∀ r ∈ l, r ≠ a ∧ r ≠ b) : others a b l = l := by
  unfold others
  rw [List.filter_eq_self]
  intro r hr
  have := h r hr
  simp [ends, this.1, this.2]
theorem others_append (a b : Str) (l m : List Str) : others a b (l ++ m) = others a b l ++ others a b m := by simp [others]

section
variable {a b : Str} {L M : List Str} {K J c : Nat}

/-- Two realms by their labels. -/
structure Pair (a b : Str) (L M : List Str) (K J c : Nat) : Prop where
  ga : Good L K
  gb : Good M J
  ea : realmOf L K = a
  eb : realmOf M J = b
  same : c = if K = J then comLen L M else 0

theorem pair_of (ha : kindOf a ≠ 0) (hb : kindOf b ≠ 0) : Pair a b (labelsOf a).1 (labelsOf b).1 (kindOf a) (kindOf b) (sameLen a b) :=
  ⟨(good_of_kind ha).1, (good_of_kind hb).1, (good_of_kind ha).2.1, (good_of_kind hb).2.1, rfl⟩

theorem Pair.flip (h : Pair a b L M K J c) : Pair b a M L J K c := ⟨h.gb, h.ga, h.eb, h.ea, by
  have := h.same
  rw [this]
  by_cases e : K = J
  · rw [if_pos e, if_pos e.symm, comLen_comm]
  · rw [if_neg e, if_neg (fun h => e h.symm)]⟩
theorem Pair.le (h : Pair a b L M K J c) : c ≤ L.length ∧ c ≤ M.length := by
  have := h.same
  split at this
  · rw [this]; exact comLen_le _ _
  · omega
theorem Pair.kind (h : Pair a b L M K J c) (hc : 1 ≤ c) : K = J := by
  have := h.same
  split at this
  · assumption
  · omega
theorem Pair.take (h : Pair a b L M K J c) {j : Nat} (hj : j ≤ c) : L.take j = M.take j := by
  have := h.same
  split at this
  · exact comLen_take _ _ _ (by omega)
  · have : j = 0 := by omega
    subst this; simp
/-- The one's first labels are the other's first labels: within the same. -/
theorem Pair.meet (h : Pair a b L M K J c) {i j : Nat} (hi : 1 ≤ i) (hiL : i ≤ L.length) (hj : 1 ≤ j) (hjM : j ≤ M.length) (e : realmOf (L.take i) K = realmOf (M.take j) J) : i = j ∧ i ≤ c := by
  obtain ⟨e1, e2⟩ := realm_inj (h.ga.take (j := i) (by omega)) (h.gb.take (j := j) (by omega)) e
  have e3 : i = j := by
    have := congrArg List.length e1
    simp at this
    omega
  refine ⟨e3, ?_⟩
  have := h.same
  rw [if_pos e2] at this
  rw [this]
  exact comLen_of_take _ _ _ hiL (by omega) (by rw [e1, e3])

theorem self_of {L : List Str} {K i j : Nat} (h : Good L K) (hi : 1 ≤ i) (hiL : i ≤ L.length) (hj : 1 ≤ j) (hjL : j ≤ L.length) (e : realmOf (L.take i) K = realmOf (L.take j) K) : i = j := by
  have := congrArg List.length (realm_inj (h.take (j := i) (by omega)) (h.take (j := j) (by omega)) e).1
  simp at this
  omega

theorem Pair.ups_clean (h : Pair a b L M K J c) : ∀ r ∈ ups L K c, r ≠ a ∧ r ≠ b := by
  intro r hr
  obtain ⟨j, h1, h2, rfl⟩ := mem_ups hr
  refine ⟨fun e => ?_, fun e => ?_⟩
  · rw [← h.ea, ← anc_all L K] at e
    have := self_of h.ga (by omega) (by omega) (List.length_pos_iff.2 h.ga.ne) (Nat.le_refl _) e
    omega
  · rw [← h.eb, ← anc_all M J] at e
    have := h.meet (by omega) (by omega) (List.length_pos_iff.2 h.gb.ne) (Nat.le_refl _) e
    omega
theorem Pair.downs_clean (h : Pair a b L M K J c) : ∀ r ∈ downs M J (c + 1), r ≠ a ∧ r ≠ b := by
  intro r hr
  obtain ⟨j, h1, h2, rfl⟩ := mem_downs hr
  refine ⟨fun e => ?_, fun e => ?_⟩
  · rw [← h.ea, ← anc_all L K] at e
    have := h.meet (List.length_pos_iff.2 h.ga.ne) (Nat.le_refl _) (by omega) (by omega) e.symm
    omega
  · rw [← h.eb, ← anc_all M J] at e
    have := self_of h.gb (by omega) (by omega) (List.length_pos_iff.2 h.gb.ne) (Nat.le_refl _) e
    omega

theorem Pair.between (h : Pair a b L M K J c) : others a b (dn (ups L K (max c 1 - 1)) M J (max c 1) (M.length - max c 1)) = ups L K c ++ (mid L M K c ++ downs M J (c + 1)) := by
  have hle := h.le
  have hL1 : 1 ≤ L.length := List.length_pos_iff.2 h.ga.ne
  have hM1 : 1 ≤ M.length := List.length_pos_iff.2 h.gb.ne
  by_cases hc : c = 0
  · subst hc
    have e1 : max 0 1 = 1 := rfl
    rw [e1]
    rw [dn_fresh M J h.gb (M.length - 1) 1 (ups L K 0) (by omega) (by omega) ?_]
    · have e2 : (List.range (M.length - 1)).map (fun i => realmOf (M.take (1 + i)) J) = downs M J (0 + 1) := rfl
      rw [e2, others_append, others_id h.ups_clean, others_id h.downs_clean]
      simp [mid]
    · intro i hi hm
      obtain ⟨j, h1, h2, e⟩ := mem_ups hm
      have := h.meet (by omega) (by omega) (by omega) (by omega) e.symm
      omega
  · have e1 : max c 1 = c := by omega
    rw [e1]
    have hk := h.kind (by omega)
    have hfresh : ∀ (out : List Str), (∀ r ∈ out, ∃ j, 1 ≤ j ∧ j ≤ L.length ∧ r = realmOf (L.take j) K) → ∀ i, i < M.length - (c + 1) → realmOf (M.take (c + 1 + i)) J ∉ out := by
      intro out ho i hi hm
      obtain ⟨j, h1, h2, e⟩ := ho _ hm
      have := h.meet h1 h2 (by omega) (by omega) e.symm
      omega
    by_cases hcL : c < L.length
    · have eu : ups L K (c - 1) = ups L K c ++ [realmOf (L.take c) K] := by
        have := ups_next L K (c - 1) (by omega)
        rw [show c - 1 + 1 = c by omega] at this
        exact this
      rw [eu]
      by_cases hcM : c < M.length
      · have e2 : M.length - c = (M.length - (c + 1)) + 1 := by omega
        rw [e2, dn_skip _ M J c _ (by rw [List.mem_append]; right; rw [List.mem_singleton, ← h.take (Nat.le_refl c), hk])]
        rw [dn_fresh M J h.gb (M.length - (c + 1)) (c + 1) _ (by omega) (by omega) (hfresh _ (fun r hr => by
          rcases List.mem_append.1 hr with hr | hr
          · obtain ⟨j, h1, h2, e⟩ := mem_ups hr
            exact ⟨j, by omega, by omega, e⟩
          · exact ⟨c, by omega, by omega, by simpa using hr⟩))]
        have e3 : (List.range (M.length - (c + 1))).map (fun i => realmOf (M.take (c + 1 + i)) J) = downs M J (c + 1) := rfl
        rw [e3, others_append, others_append, others_id h.ups_clean, others_id h.downs_clean, others_id (l := [realmOf (L.take c) K]), List.append_assoc]
        · unfold mid
          rw [if_pos ⟨by omega, hcL, hcM⟩]
        · intro r hr
          simp only [List.mem_singleton] at hr
          subst hr
          refine ⟨fun e => ?_, fun e => ?_⟩
          · rw [← h.ea, ← anc_all L K] at e
            have := self_of h.ga (by omega) (by omega) hL1 (Nat.le_refl _) e
            omega
          · rw [← h.eb, ← anc_all M J] at e
            have := h.meet (by omega) (by omega) hM1 (Nat.le_refl _) e
            omega
      · have e2 : M.length - c = 0 := by omega
        have e4 : downs M J (c + 1) = [] := by unfold downs; rw [show M.length - (c + 1) = 0 by omega]; rfl
        have e5 : mid L M K c = [] := by unfold mid; rw [if_neg (by omega)]
        have e6 : realmOf (L.take c) K = b := by
          rw [h.take (Nat.le_refl c), show c = M.length by omega, List.take_length, hk]
          exact h.eb
        rw [e2, dn, others_append, others_id h.ups_clean, e4, e5, e6]
        simp [others, ends]
    · have hcl : c = L.length := by omega
      have eu : ups L K (c - 1) = [] := by unfold ups; rw [show L.length - 1 - (c - 1) = 0 by omega]; rfl
      have eu2 : ups L K c = [] := by unfold ups; rw [show L.length - 1 - c = 0 by omega]; rfl
      have e5 : mid L M K c = [] := by unfold mid; rw [if_neg (by omega)]
      rw [eu, eu2, e5]
      by_cases hcM : c < M.length
      · have e2 : M.length - c = (M.length - (c + 1)) + 1 := by omega
        have e6 : realmOf (M.take c) J = a := by
          rw [← h.take (Nat.le_refl c), hcl, List.take_length, ← hk]
          exact h.ea
        rw [e2, dn_first _ M J c _ (by simp), e6]
        rw [dn_fresh M J h.gb (M.length - (c + 1)) (c + 1) _ (by omega) (by omega) (hfresh _ (fun r hr => by
          simp only [List.nil_append, List.mem_singleton] at hr
          exact ⟨L.length, hL1, Nat.le_refl _, by rw [hr, List.take_length]; exact h.ea.symm⟩))]
        have e3 : (List.range (M.length - (c + 1))).map (fun i => realmOf (M.take (c + 1 + i)) J) = downs M J (c + 1) := rfl
        rw [e3, others_append, others_id h.downs_clean]
        simp [others, ends]
      · have e2 : M.length - c = 0 := by omega
        have e4 : downs M J (c + 1) = [] := by unfold downs; rw [show M.length - (c + 1) = 0 by omega]; rfl
        rw [e2, dn, e4]
        rfl
end

theorem betOf_eq {a b : Str} (ha : kindOf a ≠ 0) (hb : kindOf b ≠ 0) : betOf a b = ups (labelsOf a).1 (kindOf a) (sameLen a b) ++ (mid (labelsOf a).1 (labelsOf b).1 (kindOf a) (sameLen a b) ++ downs (labelsOf b).1 (kindOf b) (sameLen a b + 1)) := by
  unfold betOf
  rw [if_neg (by rintro (h | h); exact ha h; exact hb h)]
  exact (pair_of ha hb).between

theorem ups_reverse (L : List Str) (K n : Nat) : (ups L K n).reverse = downs L K (n + 1) := by
  unfold ups downs
  apply List.ext_getElem
  · simp; omega
  · intro i h1 h2
    simp only [List.length_reverse, List.length_map, List.length_range] at h1
    simp only [List.getElem_reverse, List.getElem_map, List.getElem_range, List.length_map, List.length_range]
    congr 2
    omega
theorem downs_reverse (L : List Str) (K n : Nat) : (downs L K (n + 1)).reverse = ups L K n := by rw [← ups_reverse, List.reverse_reverse]

theorem sameLen_comm (a b : Str) : sameLen a b = sameLen b a := by
  unfold sameLen
  by_cases e : kindOf a = kindOf b
  · rw [if_pos e, if_pos e.symm, comLen_comm]
  · rw [if_neg e, if_neg (fun h => e h.symm)]

theorem betOf_back {a b : Str} (ha : kindOf a ≠ 0) (hb : kindOf b ≠ 0) : betOf b a = (betOf a b).reverse := by
  rw [betOf_eq ha hb, betOf_eq hb ha, sameLen_comm b a]
  have hP := pair_of ha hb
  rw [List.reverse_append, List.reverse_append, downs_reverse, ups_reverse, List.append_assoc]
  congr 2
  unfold mid
  by_cases h : 1 ≤ sameLen a b ∧ sameLen a b < (labelsOf a).1.length ∧ sameLen a b < (labelsOf b).1.length
  · rw [if_pos h, if_pos ⟨h.1, h.2.2, h.2.1⟩, hP.take (Nat.le_refl _), hP.kind h.1]
    rfl
  · rw [if_neg h, if_neg (fun h' => h ⟨h'.1, h'.2.2, h'.2.1⟩)]
    rfl
end Go.Proofs.YtcleonpckgfdhaaGreatDoor
