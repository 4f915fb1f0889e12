/-
  The realm above, by bytes.
-/
import Derived.Test.YtcleonpckgfdhaaGreatDoorPath2
set_option linter.unusedVariables false
set_option linter.unusedSimpArgs false
namespace Go.Proofs.YtcleonpckgfdhaaGreatDoor

theorem first_at {c : UInt8} {x t : Str} (hx : c ∉ x) {i : Nat} (h1 : ∀ j, j < i → (x ++ c :: t)[j]? ≠ some c) (h2 : (x ++ c :: t)[i]? = some c) : i = x.length := by
  rcases Nat.lt_trichotomy i x.length with h | h | h
  · rw [List.getElem?_append_left h, List.getElem?_eq_getElem h] at h2
    simp only [Option.some.injEq] at h2
    exact absurd (h2 ▸ List.getElem_mem h) hx
  · exact h
  · exact absurd (by rw [List.getElem?_append_right (Nat.le_refl _), Nat.sub_self]; rfl) (h1 x.length h)

theorem last_at {c : UInt8} {p x : Str} (hx : c ∉ x) {i : Nat} (hi : i < (p ++ c :: x).length) (h1 : ∀ j, i < j → (p ++ c :: x)[j]? ≠ some c) (h2 : (p ++ c :: x)[i]? = some c) : i = p.length := by
  rcases Nat.lt_trichotomy i p.length with h | h | h
  · exact absurd (by rw [List.getElem?_append_right (Nat.le_refl _), Nat.sub_self]; rfl) (h1 p.length h)
  · exact h
  · rw [List.getElem?_append_right (by omega), show i - p.length = (i - p.length - 1) + 1 by omega, List.getElem?_cons_succ] at h2
    exact absurd (List.mem_of_getElem? h2) hx

theorem realm_dom {L : List Str} (h : Good L 1) : (∃ x, L = [x] ∧ 46 ∉ x ∧ realmOf L 1 = x) ∨ ∃ x, 46 ∉ x ∧ realmOf L 1 = x ++ 46 :: realmOf (L.take (L.length - 1)) 1 := by
  have hne := h.ne
  obtain ⟨xs, x, hL⟩ : ∃ xs x, L = xs ++ [x] := ⟨L.dropLast, L.getLast hne, (List.dropLast_concat_getLast hne).symm⟩
  have hx : 46 ∉ x := word_not (h.word x (by rw [hL]; simp)) 46 (by decide)
  by_cases hxs : xs = []
  · subst hxs
    left
    exact ⟨x, hL, hx, by rw [hL]; rfl⟩
  · right
    refine ⟨x, hx, ?_⟩
    have e1 : L.take (L.length - 1) = xs := by rw [hL]; simp
    rw [e1]
    unfold realmOf
    rw [if_neg hne, if_neg (by decide), if_neg hxs, if_neg (by decide), hL, List.reverse_append]
    exact joinOn_cons 46 x xs.reverse (by simpa using hxs)

theorem joinOn_snoc (c : UInt8) (l : List Str) (x : Str) (hl : l ≠ []) : joinOn c (l ++ [x]) = joinOn c l ++ c :: x := by
  induction l with
  | nil => exact absurd rfl hl
  | cons y r ih =>
    by_cases hr : r = []
    · subst hr; rfl
    · rw [List.cons_append, joinOn_cons c y (r ++ [x]) (by simp), ih hr, joinOn_cons c y r hr]
      simp

theorem realm_oth {L : List Str} (h : Good L 2) : ∃ x, 47 ∉ x ∧ ((L = [x] ∧ realmOf L 2 = 47 :: x) ∨ realmOf L 2 = realmOf (L.take (L.length - 1)) 2 ++ 47 :: x ∧ 0 < (realmOf (L.take (L.length - 1)) 2).length) := by
  have hne := h.ne
  obtain ⟨xs, x, hL⟩ : ∃ xs x, L = xs ++ [x] := ⟨L.dropLast, L.getLast hne, (List.dropLast_concat_getLast hne).symm⟩
  have hx : 47 ∉ x := word_not (h.word x (by rw [hL]; simp)) 47 (by decide)
  refine ⟨x, hx, ?_⟩
  by_cases hxs : xs = []
  · subst hxs
    left
    exact ⟨hL, by rw [hL]; rfl⟩
  · right
    have e1 : L.take (L.length - 1) = xs := by rw [hL]; simp
    rw [e1]
    unfold realmOf
    rw [if_neg hne, if_pos rfl, if_neg hxs, if_pos rfl, hL, joinOn_snoc 47 xs x hxs]
    exact ⟨rfl, by simp⟩

theorem up_of_good {L : List Str} {K : Nat} (h : Good L K) : upOf (realmOf L K) = realmOf (L.take (L.length - 1)) K := by
  have := up_anc h (List.length_pos_iff.2 h.ne) (Nat.le_refl _)
  rwa [List.take_length] at this

/-- Cut behind the first dot. -/
theorem up_dot {r : Str} (hk : kindOf r = 1) {i : Nat} (h1 : ∀ j, j < i → r[j]? ≠ some 46) (h2 : r[i]? = some 46) : upOf r = r.drop (i + 1) := by
  obtain ⟨hG, he, _⟩ := good_of_kind (r := r) (by omega)
  rw [hk] at hG he
  have hu := up_of_good hG
  rw [he] at hu
  rw [hu]
  rcases realm_dom hG with ⟨x, _, hx, e⟩ | ⟨x, hx, e⟩
  · rw [he] at e
    exact absurd (e ▸ List.mem_of_getElem? h2) hx
  · rw [he] at e
    rw [e] at h1 h2
    have hi := first_at hx h1 h2
    subst hi
    conv => rhs; rw [e]
    rw [show x.length + 1 = (x ++ [46]).length by simp]
    rw [show x ++ 46 :: realmOf (List.take ((labelsOf r).fst.length - 1) (labelsOf r).fst) 1 = (x ++ [46]) ++ realmOf (List.take ((labelsOf r).fst.length - 1) (labelsOf r).fst) 1 by simp, List.drop_left' rfl]
theorem up_nodot {r : Str} (hk : kindOf r = 1) (h1 : ∀ j, j < r.length → r[j]? ≠ some 46) : upOf r = [] := by
  obtain ⟨hG, he, _⟩ := good_of_kind (r := r) (by omega)
  rw [hk] at hG he
  have hu := up_of_good hG
  rw [he] at hu
  rw [hu]
  rcases realm_dom hG with ⟨x, hL, hx, e⟩ | ⟨x, hx, e⟩
  · rw [hL]; rfl
  · rw [he] at e
    exfalso
    refine h1 x.length (by rw [e]; simp) ?_
    rw [e, List.getElem?_append_right (Nat.le_refl _), Nat.sub_self]
    rfl
/-- Cut at the last slash. -/
theorem up_slash {r : Str} (hk : kindOf r = 2) {i : Nat} (hi : i < r.length) (h0 : 0 < i) (h1 : ∀ j, i < j → r[j]? ≠ some 47) (h2 : r[i]? = some 47) : upOf r = r.take i := by
  obtain ⟨hG, he, _⟩ := good_of_kind (r := r) (by omega)
  rw [hk] at hG he
  have hu := up_of_good hG
  rw [he] at hu
  rw [hu]
  obtain ⟨x, hx, ⟨hL, e⟩ | ⟨e, hp⟩⟩ := realm_oth hG
  · rw [he] at e
    rw [e, show i = (i - 1) + 1 by omega, List.getElem?_cons_succ] at h2
    exact absurd (List.mem_of_getElem? h2) hx
  · rw [he] at e
    obtain ⟨P, hP⟩ : ∃ P, P = realmOf (List.take ((labelsOf r).fst.length - 1) (labelsOf r).fst) 2 := ⟨_, rfl⟩
    rw [← hP] at e hp ⊢
    clear hP
    have := last_at (p := P) hx (by rw [← e]; exact hi) (by rw [← e]; exact h1) (by rw [← e]; exact h2)
    rw [this, e, List.take_left' rfl]
theorem up_noslash {r : Str} (hk : kindOf r = 2) (h1 : ∀ j, 0 < j → r[j]? ≠ some 47) : upOf r = [] := by
  obtain ⟨hG, he, _⟩ := good_of_kind (r := r) (by omega)
  rw [hk] at hG he
  have hu := up_of_good hG
  rw [he] at hu
  rw [hu]
  obtain ⟨x, hx, ⟨hL, e⟩ | ⟨e, hp⟩⟩ := realm_oth hG
  · rw [hL]; rfl
  · rw [he] at e
    exfalso
    obtain ⟨P, hP⟩ : ∃ P, P = realmOf (List.take ((labelsOf r).fst.length - 1) (labelsOf r).fst) 2 := ⟨_, rfl⟩
    rw [← hP] at e hp
    clear hP
    refine h1 P.length hp ?_
    rw [e, List.getElem?_append_right (Nat.le_refl _), Nat.sub_self]
    rfl
theorem up_none {r : Str} (hk : kindOf r = 0) : upOf r = [] := by unfold upOf; rw [if_pos hk]
end Go.Proofs.YtcleonpckgfdhaaGreatDoor
