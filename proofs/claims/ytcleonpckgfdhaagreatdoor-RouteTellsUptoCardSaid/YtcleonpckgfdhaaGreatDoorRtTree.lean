/-
  Where each realm is linked with the one above it and back, and tops with one another: each comes to each by what stands between them.
-/
import Derived.Test.YtcleonpckgfdhaaGreatDoorRtText
set_option linter.unusedVariables false
set_option linter.unusedSimpArgs false
namespace Go.Proofs.YtcleonpckgfdhaaGreatDoor

/-- Realms, with those above them. -/
structure Closed (R : List Str) : Prop where
  isR : ∀ r ∈ R, isR r = true
  up : ∀ r ∈ R, upOf r ≠ [] → upOf r ∈ R
def joined (p q : Str) : Bool := decide (upOf p = q) || decide (upOf q = p) || (decide (p ≠ q) && (decide (upOf p = []) && decide (upOf q = [])))

section
variable {a b : Str} {L M : List Str} {K J c : Nat}

theorem comLen_takeL (L M : List Str) (j : Nat) : comLen (L.take j) M = min j (comLen L M) := by
  induction L generalizing M j with
  | nil => simp [comLen]
  | cons x L ih =>
    cases M with
    | nil => cases j <;> simp [comLen]
    | cons y M =>
      cases j with
      | zero => simp [comLen]
      | succ j =>
        rw [List.take_succ_cons]
        unfold comLen
        split
        · rw [ih]; omega
        · simp

theorem Pair.left (h : Pair a b L M K J c) {j : Nat} (h1 : max c 1 ≤ j) : Pair (realmOf (L.take j) K) b (L.take j) M K J c := by
  refine ⟨h.ga.take (by omega), h.gb, rfl, h.eb, ?_⟩
  have hs := h.same
  split
  · rename_i e
    rw [if_pos e] at hs
    rw [comLen_takeL]
    omega
  · rename_i e
    rw [if_neg e] at hs
    exact hs
theorem Pair.right (h : Pair a b L M K J c) {j : Nat} (h1 : 1 ≤ j) (h2 : j ≤ M.length) : Pair (realmOf (M.take j) J) b (M.take j) M J J j := by
  refine ⟨h.gb.take (by omega), h.gb, rfl, h.eb, ?_⟩
  rw [if_pos rfl, comLen_takeL]
  have := comLen_of_take M M M.length (Nat.le_refl _) (Nat.le_refl _) rfl
  omega

theorem ext_get {l m : List Str} (hl : l.length = m.length) (h : ∀ i, i < l.length → l[i]! = m[i]!) : l = m := by
  refine List.ext_getElem hl fun i h1 h2 => ?_
  have := h i h1
  rwa [getElem!_pos l i h1, getElem!_pos m i h2] at this
theorem drop_get (l : List Str) (k i : Nat) (h : k + i < l.length) : (l.drop k)[i]! = l[k + i]! := by
  rw [getElem!_pos _ i (by simp; omega), getElem!_pos l (k + i) h, List.getElem_drop]

theorem way_dropL (h : Pair a b L M K J c) {i : Nat} (hi : i ≤ L.length - max c 1) : wayOf (L.take (L.length - i)) M K J c = (wayOf L M K J c).drop i := by
  have hle := h.le
  have hL1 : 1 ≤ L.length := List.length_pos_iff.2 h.ga.ne
  have hl := way_len L M K J c
  have hl2 := way_len (L.take (L.length - i)) M K J c
  have ht : (L.take (L.length - i)).length = L.length - i := by simp
  rw [ht] at hl2
  refine ext_get (by simp; omega) fun k hk => ?_
  rw [drop_get _ _ _ (by omega)]
  by_cases hk2 : k ≤ L.length - i - max c 1
  · rw [way_left _ _ _ _ _ _ (by rw [ht]; exact hk2), way_left L M K J c (i + k) (by omega), ht, List.take_take]
    congr 2
    omega
  · have e1 := way_right (L.take (L.length - i)) M K J c (k - (L.length - i - max c 1 + 1)) (by omega)
    have e2 := way_right L M K J c (k - (L.length - i - max c 1 + 1)) (by omega)
    rw [ht, show L.length - i - max c 1 + 1 + (k - (L.length - i - max c 1 + 1)) = k by omega] at e1
    rw [show L.length - max c 1 + 1 + (k - (L.length - i - max c 1 + 1)) = i + k by omega] at e2
    rw [e1, e2]
theorem way_dropR (h : Pair a b L M K J c) {q : Nat} (hq : q < M.length - c) : wayOf (M.take (c + 1 + q)) M J J (c + 1 + q) = (wayOf L M K J c).drop (L.length - max c 1 + 1 + q) := by
  have hle := h.le
  have hL1 : 1 ≤ L.length := List.length_pos_iff.2 h.ga.ne
  have hl := way_len L M K J c
  have hl2 := way_len (M.take (c + 1 + q)) M J J (c + 1 + q)
  have ht : (M.take (c + 1 + q)).length = c + 1 + q := by simp; omega
  rw [ht] at hl2
  refine ext_get (by simp; omega) fun k hk => ?_
  rw [drop_get _ _ _ (by omega)]
  cases k with
  | zero =>
    have e2 := way_right L M K J c q hq
    rw [way_left _ _ _ _ _ _ (by omega), ht, List.take_take, show L.length - max c 1 + 1 + q + 0 = L.length - max c 1 + 1 + q from rfl, e2]
    congr 2
    omega
  | succ k =>
    have e1 := way_right (M.take (c + 1 + q)) M J J (c + 1 + q) k (by omega)
    rw [ht, show c + 1 + q - max (c + 1 + q) 1 + 1 + k = k + 1 by omega] at e1
    have e2 := way_right L M K J c (q + (k + 1)) (by omega)
    rw [e1, show L.length - max c 1 + 1 + q + (k + 1) = L.length - max c 1 + 1 + (q + (k + 1)) by omega, e2]
    congr 2
    omega

/-- Only the next one is joined. -/
theorem not_joined (h : Pair a b L M K J c) {j : Nat} (h2 : 2 ≤ j) (hj : j < (wayOf L M K J c).length) : joined a (wayOf L M K J c)[j]! = false := by
  have hle := h.le
  have hL1 : 1 ≤ L.length := List.length_pos_iff.2 h.ga.ne
  have eua : upOf a = realmOf (L.take (L.length - 1)) K := by rw [← h.ea]; exact up_of_good h.ga
  have eL : realmOf (L.take L.length) K = a := by rw [List.take_length]; exact h.ea
  have hane : a ≠ [] := by rw [← h.ea]; exact realm_ne h.ga
  unfold joined
  rw [Bool.or_eq_false_iff, Bool.or_eq_false_iff, Bool.and_eq_false_iff, Bool.and_eq_false_iff]
  simp only [decide_eq_false_iff_not]
  rcases way_cases h hj with ⟨h3, e3⟩ | ⟨q, h3, h4, e3⟩ <;> rw [e3]
  · have eu := up_anc h.ga (j := L.length - j) (by omega) (by omega)
    refine ⟨⟨?_, ?_⟩, .inr (.inl ?_)⟩
    · rw [eua]
      intro e
      have := self_of h.ga (by omega) (by omega) (by omega) (by omega) e
      omega
    · rw [eu]
      intro e
      by_cases h0 : L.length - j - 1 = 0
      · rw [h0] at e
        exact hane e.symm
      · rw [← eL] at e
        have := self_of h.ga (by omega) (by omega) (by omega) (by omega) e
        omega
    · rw [eua]
      exact realm_ne (h.ga.take (by omega))
  · have eu := up_anc h.gb (j := c + 1 + q) (by omega) (by omega)
    rw [show c + 1 + q - 1 = c + q by omega] at eu
    have hne : realmOf (M.take (c + 1 + q)) J ≠ [] := realm_ne (h.gb.take (by omega))
    refine ⟨⟨?_, ?_⟩, ?_⟩
    · rw [eua]
      intro e
      by_cases h0 : L.length - 1 = 0
      · rw [h0] at e
        exact hne e.symm
      · have := h.meet (by omega) (by omega) (by omega) (by omega) e
        omega
    · rw [eu]
      intro e
      by_cases h0 : c + q = 0
      · rw [h0] at e
        exact hane e.symm
      · rw [← eL] at e
        have := h.meet (by omega) (by omega) (by omega) (by omega) e.symm
        omega
    · by_cases h0 : L.length = 1
      · right; right
        rw [eu]
        exact realm_ne (h.gb.take (by omega))
      · right; left
        rw [eua]
        exact realm_ne (h.ga.take (by omega))
theorem joined_next (h : Pair a b L M K J c) (hw : 2 ≤ (wayOf L M K J c).length) : joined a (wayOf L M K J c)[1]! = true := by
  have hle := h.le
  have hL1 : 1 ≤ L.length := List.length_pos_iff.2 h.ga.ne
  have h0 : (wayOf L M K J c)[0]! = a := by
    rw [way_left L M K J c 0 (by omega), Nat.sub_zero, List.take_length]
    exact h.ea
  have hs := way_step h (i := 1) (by omega) (by omega)
  have hne := way_apart h (k := 0) (i := 1) (by omega) (by omega)
  simp only [Nat.sub_self] at hs
  rw [h0] at hs hne
  generalize (wayOf L M K J c)[1]! = y at hs hne
  unfold joined
  rcases hs with e | e | ⟨e1, e2⟩
  · simp [e]
  · simp [e]
  · simp [e1, e2, hne]
end

theorem closed_anc {R : List Str} (hR : Closed R) {L : List Str} {K : Nat} (h : Good L K) (hm : realmOf L K ∈ R) : ∀ d, d < L.length → realmOf (L.take (L.length - d)) K ∈ R := by
  intro d
  induction d with
  | zero => intro _; rw [Nat.sub_zero, List.take_length]; exact hm
  | succ d ih =>
    intro hd
    have := ih (by omega)
    have e := up_anc h (j := L.length - d) (by omega) (by omega)
    rw [show L.length - d - 1 = L.length - (d + 1) by omega] at e
    rw [← e]
    refine hR.up _ this ?_
    rw [e]
    exact realm_ne (h.take (by omega))

theorem way_closed {R : List Str} (hR : Closed R) {a b : Str} {L M : List Str} {K J c : Nat} (h : Pair a b L M K J c) (ha : a ∈ R) (hb : b ∈ R) {t : Nat} (ht : t < (wayOf L M K J c).length) : (wayOf L M K J c)[t]! ∈ R := by
  have hle := h.le
  have hL1 : 1 ≤ L.length := List.length_pos_iff.2 h.ga.ne
  rcases way_cases h ht with ⟨h3, e3⟩ | ⟨q, h3, h4, e3⟩ <;> rw [e3]
  · exact closed_anc hR h.ga (by rw [h.ea]; exact ha) t (by omega)
  · have := closed_anc hR h.gb (by rw [h.eb]; exact hb) (M.length - (c + 1 + q)) (by omega)
    rwa [show M.length - (M.length - (c + 1 + q)) = c + 1 + q by omega] at this

theorem find_last {α : Type} (p : α → Bool) (x : α) (l : List α) (hx : p x = true) (hl : ∀ y ∈ l, p y = false) : (x :: l).reverse.find? p = some x := by
  rw [List.reverse_cons, List.find?_append]
  have : l.reverse.find? p = none := by
    rw [List.find?_eq_none]
    intro y hy
    simp [hl y (by simpa using hy)]
  rw [this]
  simp [hx]

/-- Such realms' links. -/
structure Tree (T : Topo) : Prop where
  closed : Closed T.realms
  few : T.realms.length ≤ 6
  links : ∀ p q, linkedOf T p q = true ↔ p ∈ T.realms ∧ q ∈ T.realms ∧ joined p q = true
  paths : T.paths = []

theorem way_all {a b : Str} (ha : isR a = true) (hb : isR b = true) (hne : a ≠ b) {L M : List Str} {K J c : Nat} (h : Pair a b L M K J c) : [a] ++ betOf a b ++ [b] = wayOf L M K J c := by
  have e := h.way hne
  have hk : ∀ r, isR r = true → kindOf r ≠ 0 := fun r hr => by unfold isR at hr; simpa using hr
  have h2 := pair_of (hk a ha) (hk b hb)
  have e1 : (labelsOf a).1 = L ∧ kindOf a = K := by
    have := realm_inj h2.ga h.ga (h2.ea.trans h.ea.symm)
    exact this
  have e2 : (labelsOf b).1 = M ∧ kindOf b = J := realm_inj h2.gb h.gb (h2.eb.trans h.eb.symm)
  have e3 : sameLen a b = c := by
    rw [h2.same, h.same, e1.1, e1.2, e2.1, e2.2]
  rw [betOf_eq (hk a ha) (hk b hb), e1.1, e1.2, e2.1, e2.2, e3]
  exact e

theorem tree_next {T : Topo} (hT : Tree T) {a b : Str} (ha : a ∈ T.realms) (hb : b ∈ T.realms) (hne : a ≠ b) {L M : List Str} {K J c : Nat} (h : Pair a b L M K J c) : nextOf T a b = some (wayOf L M K J c)[1]! := by
  have hra := hT.closed.isR a ha
  have hrb := hT.closed.isR b hb
  have hw := way_all hra hrb hne h
  have hl : laidOf T a b = none := by rw [laid_none, hT.paths]; simp
  have hlen : 2 ≤ (wayOf L M K J c).length := by rw [← hw]; simp
  unfold nextOf wayTo
  rw [if_neg hne, hl]
  simp only
  obtain ⟨x, l, hx⟩ : ∃ x l, betOf a b ++ [b] = x :: l := by
    cases h : betOf a b with
    | nil => exact ⟨b, [], rfl⟩
    | cons y r => exact ⟨y, r ++ [b], rfl⟩
  have hw2 : wayOf L M K J c = a :: x :: l := by rw [← hw, List.append_assoc, hx]; rfl
  have e1 : (wayOf L M K J c)[1]! = x := by rw [hw2]; rfl
  rw [hx, find_last _ x l, e1]
  · rw [hT.links]
    refine ⟨ha, ?_, ?_⟩
    · rw [← e1]; exact way_closed hT.closed h ha hb (by omega)
    · rw [← e1]; exact joined_next h hlen
  · intro y hy
    obtain ⟨i, hi, rfl⟩ := List.getElem_of_mem hy
    have hj := not_joined h (j := i + 2) (by omega) (by rw [hw2]; simp; omega)
    have e2 : (wayOf L M K J c)[i + 2]! = l[i] := by
      rw [hw2, getElem!_pos _ _ (by simp; omega)]
      rfl
    rw [e2] at hj
    cases hlk : linkedOf T a l[i] with
    | false => rfl
    | true =>
      rw [hT.links] at hlk
      rw [hlk.2.2] at hj
      cases hj

/-- From the way's i-th realm. -/
theorem tree_at {T : Topo} (hT : Tree T) {a b : Str} (ha : a ∈ T.realms) (hb : b ∈ T.realms) {L M : List Str} {K J c : Nat} (h : Pair a b L M K J c) {i : Nat} (hi : i + 1 < (wayOf L M K J c).length) : nextOf T (wayOf L M K J c)[i]! b = some (wayOf L M K J c)[i + 1]! ∧ (wayOf L M K J c)[i]! ≠ b := by
  have hle := h.le
  have hL1 : 1 ≤ L.length := List.length_pos_iff.2 h.ga.ne
  have hM1 : 1 ≤ M.length := List.length_pos_iff.2 h.gb.ne
  have hend : (wayOf L M K J c)[(wayOf L M K J c).length - 1]! = b := by
    have hl := way_len L M K J c
    by_cases hc : c < M.length
    · have := way_right L M K J c (M.length - c - 1) (by omega)
      rw [show L.length - max c 1 + 1 + (M.length - c - 1) = (wayOf L M K J c).length - 1 by omega, show c + 1 + (M.length - c - 1) = M.length by omega, List.take_length, h.eb] at this
      exact this
    · have := way_left L M K J c (L.length - max c 1) (Nat.le_refl _)
      rw [show (wayOf L M K J c).length - 1 = L.length - max c 1 by omega, this, show L.length - (L.length - max c 1) = c by omega, h.take (Nat.le_refl c), h.kind (by omega), show c = M.length by omega, List.take_length]
      exact h.eb
  have hne : (wayOf L M K J c)[i]! ≠ b := by
    rw [← hend]
    exact way_apart h (by omega) (by omega)
  refine ⟨?_, hne⟩
  have hmem := way_closed hT.closed h ha hb (t := i) (by omega)
  rcases way_cases h (t := i) (by omega) with ⟨h3, e3⟩ | ⟨q, h3, h4, e3⟩
  · rw [e3] at hmem hne ⊢
    have := tree_next hT hmem hb hne (h.left (j := L.length - i) (by omega))
    rw [this, way_dropL h h3, drop_get _ _ _ (by omega)]
  · rw [e3] at hmem hne ⊢
    have := tree_next hT hmem hb hne (h.right (j := c + 1 + q) (by omega) (by omega))
    rw [this, way_dropR h h4, drop_get _ _ _ (by omega), h3]

theorem tree_go {T : Topo} (hT : Tree T) {a b : Str} (ha : a ∈ T.realms) (hb : b ∈ T.realms) {L M : List Str} {K J c : Nat} (h : Pair a b L M K J c) (hend : (wayOf L M K J c)[(wayOf L M K J c).length - 1]! = b) (hlen : (wayOf L M K J c).length ≤ 6) :
    ∀ (d i f : Nat), i + d + 1 = (wayOf L M K J c).length → d < f → walkGo T b f ((wayOf L M K J c).take (i + 1)) (wayOf L M K J c)[i]! = some (wayOf L M K J c) := by
  intro d
  induction d with
  | zero =>
    intro i f hi hf
    obtain ⟨f, rfl⟩ : ∃ g, f = g + 1 := ⟨f - 1, by omega⟩
    rw [walkGo, if_pos (by rw [show i = (wayOf L M K J c).length - 1 by omega]; exact hend), List.take_of_length_le (by omega)]
  | succ d ih =>
    intro i f hi hf
    obtain ⟨f, rfl⟩ : ∃ g, f = g + 1 := ⟨f - 1, by omega⟩
    obtain ⟨e1, e2⟩ := tree_at hT ha hb h (i := i) (by omega)
    rw [walkGo, if_neg e2, e1]
    simp only
    rw [if_neg]
    · have e3 : (wayOf L M K J c).take (i + 1) ++ [(wayOf L M K J c)[i + 1]!] = (wayOf L M K J c).take (i + 1 + 1) := by
        rw [List.take_succ_eq_append_getElem (i := i + 1) (by omega), getElem!_pos _ (i + 1) (by omega)]
      rw [e3]
      exact ih (i + 1) f (by omega) (by omega)
    · rintro (hm | ⟨h5, _⟩)
      · obtain ⟨k, hk, e⟩ := List.getElem_of_mem hm
        simp only [List.length_take] at hk
        rw [List.getElem_take] at e
        have := way_apart h (k := k) (i := i + 1) (by omega) (by omega)
        rw [getElem!_pos _ k (by omega)] at this
        exact this e
      · simp only [List.length_take] at h5
        omega

theorem nodup_le {l R : List Str} (hn : l.Nodup) (hs : ∀ x ∈ l, x ∈ R) : l.length ≤ R.length := by
  induction l generalizing R with
  | nil => simp
  | cons x l ih =>
    rw [List.nodup_cons] at hn
    have := ih (R := R.erase x) hn.2 (fun y hy => by
      have hne : y ≠ x := by
        intro e
        subst e
        exact hn.1 hy
      rw [List.mem_erase_of_ne hne]
      exact hs y (by simp [hy]))
    rw [List.length_erase_of_mem (hs x (by simp))] at this
    have : 1 ≤ R.length := List.length_pos_of_mem (hs x (by simp))
    simp only [List.length_cons]
    omega

/-- **EACH COMES TO EACH BY WHAT STANDS BETWEEN THEM.** -/
theorem tree_walk {T : Topo} (hT : Tree T) {a b : Str} (ha : a ∈ T.realms) (hb : b ∈ T.realms) : walkOf T a b = some (betOf a b) ∧ (betOf a b).length ≤ 5 := by
  by_cases hne : a = b
  · subst hne
    rw [walk_self, betOf_self]
    exact ⟨rfl, by simp⟩
  · have hra := hT.closed.isR a ha
    have hrb := hT.closed.isR b hb
    have hk : ∀ r, isR r = true → kindOf r ≠ 0 := fun r hr => by unfold isR at hr; simpa using hr
    have h := pair_of (hk a hra) (hk b hrb)
    have hw := way_all hra hrb hne h
    have hlen : (wayOf (labelsOf a).1 (labelsOf b).1 (kindOf a) (kindOf b) (sameLen a b)).length ≤ 6 := by
      refine Nat.le_trans (nodup_le (R := T.realms) ?_ ?_) hT.few
      · rw [List.nodup_iff_pairwise_ne, List.pairwise_iff_getElem]
        intro i j hi hj hij
        have := way_apart h (k := i) (i := j) hij hj
        rwa [getElem!_pos _ i hi, getElem!_pos _ j hj] at this
      · intro x hx
        obtain ⟨i, hi, rfl⟩ := List.getElem_of_mem hx
        have := way_closed hT.closed h ha hb hi
        rwa [getElem!_pos _ i hi] at this
    have h0 : (wayOf (labelsOf a).1 (labelsOf b).1 (kindOf a) (kindOf b) (sameLen a b))[0]! = a := by rw [← hw]; rfl
    have hend : (wayOf (labelsOf a).1 (labelsOf b).1 (kindOf a) (kindOf b) (sameLen a b))[(wayOf (labelsOf a).1 (labelsOf b).1 (kindOf a) (kindOf b) (sameLen a b)).length - 1]! = b := by
      rw [← hw, getElem!_pos _ _ (by simp)]
      simp
    have h1 : 1 ≤ (wayOf (labelsOf a).1 (labelsOf b).1 (kindOf a) (kindOf b) (sameLen a b)).length := by rw [← hw]; simp
    have := tree_go hT ha hb h hend hlen ((wayOf (labelsOf a).1 (labelsOf b).1 (kindOf a) (kindOf b) (sameLen a b)).length - 1) 0 8 (by omega) (by omega)
    rw [h0] at this
    have e : (wayOf (labelsOf a).1 (labelsOf b).1 (kindOf a) (kindOf b) (sameLen a b)).take (0 + 1) = [a] := by rw [← hw]; rfl
    rw [e] at this
    refine ⟨?_, ?_⟩
    · unfold walkOf
      rw [this, ← hw]
      simp
    · rw [← hw] at hlen
      simp at hlen
      omega
end Go.Proofs.YtcleonpckgfdhaaGreatDoor
