/-
  Realms that were passed, as a text, in plain Lean.
-/
import Derived.Test.YtjbdegcmolimoaaDoorUpText
set_option linter.unusedVariables false
set_option linter.unusedSimpArgs false
namespace Go.Proofs.YtjbdegcmolimoaaDoor

def shortOf (r p : Str) : Str := if underOf r p = true then (if kindOf r = 1 then r.take (r.length - p.length) else r.drop p.length) else if kindOf r = 2 then 32 :: r else r
def shortsOn (p : Str) : List Str → List Str
  | [] => []
  | r :: t => shortOf r p :: shortsOn r t
def shorts : List Str → List Str
  | [] => []
  | r :: t => r :: shortsOn r t
def compressOf (l : List Str) : Str × Nat := if (l.any fun r => !isR r) = true then ([], 1) else if 8 < l.length then ([], 13) else (joinOn 44 (shorts l), 0)

def addOf (l : List Str) (r : Str) : List Str := if r ∈ l then l else l ++ [r]
def addsOf (l rs : List Str) : List Str := rs.foldl addOf l
def subRaw (s p : Str) : Option Str :=
  if s.getLast? = some 46 then (if p = [] then none else some (s ++ p))
  else if s.head? = some 47 then (if kindOf p = 2 then some (p ++ s) else some s)
  else if s.head? = some 32 then (if s.tail.head? = some 47 then some s.tail else none)
  else some s
def subOf (s p : Str) : Option Str := match subRaw s p with
  | none => none
  | some r => if isR r = true then some r else none
def fillOf (c next : Str) (l : List Str) (p : Str) (null : Bool) : List Str := if null = true then addsOf l (betOf (if p = [] then c else p) next) else l
def exGo (c v : Str) : List Str → List Str → Str → Bool → List Str × Nat
  | [], l, p, null => if 8 < (fillOf c v l p null).length then ([], 13) else (fillOf c v l p null, 0)
  | f :: fs, l, p, null => if f = [] then exGo c v fs l p true else match subOf f p with
    | none => ([], 2)
    | some r => if 8 < (addOf (fillOf c r l p null) r).length then ([], 13) else exGo c v fs (addOf (fillOf c r l p null) r) r false
def expandOf (s c v : Str) : List Str × Nat := if isR c = false ∨ isR v = false then ([], 1) else if s = [] then ([], 0) else exGo c v (splitOn 44 s) [] [] false
def insertOf (s c v r : Str) : Str × Nat := if (expandOf s c v).2 ≠ 0 then ([], (expandOf s c v).2) else if isR r = false then ([], 1) else if r = c ∨ r = v ∨ r ∈ (expandOf s c v).1 then (s, 0) else compressOf ((expandOf s c v).1 ++ [r])

theorem joinOn_append (c : UInt8) (A B : List Str) (hA : A ≠ []) (hB : B ≠ []) : joinOn c (A ++ B) = joinOn c A ++ c :: joinOn c B := by
  induction A with
  | nil => exact absurd rfl hA
  | cons x r ih =>
    by_cases hr : r = []
    · subst hr
      rw [List.cons_append, List.nil_append, joinOn_cons c x B hB]
      rfl
    · rw [List.cons_append, joinOn_cons c x (r ++ B) (by simp [hr]), ih hr, joinOn_cons c x r hr]
      simp

theorem splitOn_app2 (c : UInt8) (x y : Str) : splitOn c (x ++ c :: y) = splitOn c x ++ splitOn c y := by
  rw [← joinOn_splitOn c x]
  have h := splitOn_parts c x
  have hn := splitOn_ne c x
  generalize splitOn c x = l at *
  induction l with
  | nil => exact absurd rfl hn
  | cons u r ih =>
    by_cases hr : r = []
    · subst hr
      show splitOn c (u ++ c :: y) = splitOn c u ++ _
      rw [splitOn_app (h u (by simp)), splitOn_none (h u (by simp))]
      rfl
    · rw [joinOn_cons c u r hr, List.append_assoc, List.cons_append, splitOn_app (h u (by simp)), splitOn_app (h u (by simp)), ih (fun z hz => h z (by simp [hz])) hr]
      rfl

theorem joinOn_mem {c b : UInt8} {l : List Str} (h : b ∈ joinOn c l) : b = c ∨ ∃ x ∈ l, b ∈ x := by
  induction l with
  | nil => simp [joinOn] at h
  | cons x r ih =>
    by_cases hr : r = []
    · subst hr
      exact .inr ⟨x, by simp, h⟩
    · rw [joinOn_cons c x r hr, List.mem_append, List.mem_cons] at h
      rcases h with h | h | h
      · exact .inr ⟨x, by simp, h⟩
      · exact .inl h
      · rcases ih h with h | ⟨y, hy, h⟩
        · exact .inl h
        · exact .inr ⟨y, by simp [hy], h⟩

theorem joinOn_last {c : UInt8} {l : List Str} (hl : l ≠ []) (h : ∀ x ∈ l, word upB x = true) : ∃ b, (joinOn c l).getLast? = some b ∧ 65 ≤ b.toNat := by
  induction l with
  | nil => exact absurd rfl hl
  | cons x r ih =>
    by_cases hr : r = []
    · subst hr
      obtain ⟨h1, _, h3⟩ := word_up (h x (by simp))
      have hx : x ≠ [] := by intro e; rw [e] at h1; simp at h1
      refine ⟨x.getLast hx, ?_, (h3 _ (List.getLast_mem hx)).1⟩
      show x.getLast? = _
      exact List.getLast?_eq_some_getLast hx
    · obtain ⟨b, h1, h2⟩ := ih hr (fun y hy => h y (by simp [hy]))
      refine ⟨b, ?_, h2⟩
      rw [joinOn_cons c x r hr, List.getLast?_append, List.getLast?_cons, h1]
      rfl

theorem isR_kind' {r : Str} (h : isR r = true) : kindOf r ≠ 0 := by
  unfold isR at h
  simpa using h
theorem kind_isR {r : Str} (h : kindOf r ≠ 0) : isR r = true := by
  unfold isR
  simpa using h

/-- What a realm's bytes are. -/
theorem realm_bytes {r : Str} (h : isR r = true) : ∀ b ∈ r, (65 ≤ b.toNat ∧ b.toNat ≤ 90) ∨ b = 46 ∨ b = 47 := by
  obtain ⟨hG, he, _⟩ := good_of_kind (isR_kind' h)
  intro b hb
  rw [← he] at hb
  unfold realmOf at hb
  rw [if_neg hG.ne] at hb
  split at hb
  · rw [List.mem_cons] at hb
    rcases hb with hb | hb
    · exact .inr (.inr hb)
    · rcases joinOn_mem hb with hb | ⟨x, hx, hb⟩
      · exact .inr (.inr hb)
      · exact .inl ((word_up (hG.word x hx)).2.2 b hb)
  · rcases joinOn_mem hb with hb | ⟨x, hx, hb⟩
    · exact .inr (.inl hb)
    · exact .inl ((word_up (hG.word x (by simpa using hx))).2.2 b hb)
theorem realm_no {r : Str} (h : isR r = true) (c : UInt8) (h1 : c.toNat < 65 ∨ 90 < c.toNat) (h2 : c ≠ 46) (h3 : c ≠ 47) : c ∉ r := fun hm => by
  rcases realm_bytes h c hm with h | h | h
  · omega
  · exact h2 h
  · exact h3 h
theorem realm_last {r : Str} (h : isR r = true) : ∃ b, r.getLast? = some b ∧ 65 ≤ b.toNat := by
  obtain ⟨hG, he, _⟩ := good_of_kind (isR_kind' h)
  rw [← he]
  unfold realmOf
  rw [if_neg hG.ne]
  split
  · obtain ⟨b, h1, h2⟩ := joinOn_last (c := 47) hG.ne hG.word
    exact ⟨b, by rw [List.getLast?_cons, h1]; rfl, h2⟩
  · exact joinOn_last (by simpa using hG.ne) (fun x hx => hG.word x (by simpa using hx))
theorem realm_nodot {r : Str} (h : isR r = true) : r.getLast? ≠ some 46 := fun e => by
  obtain ⟨b, h1, h2⟩ := realm_last h
  rw [h1] at e
  simp only [Option.some.injEq] at e
  subst e
  revert h2
  decide
theorem realm_head1 {r : Str} (h : kindOf r = 1) : ∃ b, r.head? = some b ∧ 65 ≤ b.toNat := by
  obtain ⟨hG, he, _⟩ := good_of_kind (r := r) (by omega)
  rw [h] at hG he
  rw [← he]
  unfold realmOf
  rw [if_neg hG.ne, if_neg (by decide)]
  obtain ⟨b, t, h1, h2⟩ := joinOn_head (c := 46) (l := (labelsOf r).1.reverse) (by simpa using hG.ne) (fun x hx => hG.word x (by simpa using hx))
  exact ⟨b, by rw [h1]; rfl, h2⟩
theorem realm_head2 {r : Str} (h : kindOf r = 2) : r.head? = some 47 := by
  obtain ⟨hG, he, _⟩ := good_of_kind (r := r) (by omega)
  rw [h] at hG he
  rw [← he]
  unfold realmOf
  rw [if_neg hG.ne, if_pos rfl]
  rfl
theorem head1_not {r : Str} (h : kindOf r = 1) (c : UInt8) (hc : c.toNat < 65) : r.head? ≠ some c := fun e => by
  obtain ⟨b, h1, h2⟩ := realm_head1 h
  rw [h1] at e
  simp only [Option.some.injEq] at e
  subst e
  omega
theorem realm_nil {r : Str} (h : isR r = true) : r ≠ [] := fun e => by
  obtain ⟨b, h1, _⟩ := realm_last h
  rw [e] at h1
  simp at h1
theorem isR_cases {r : Str} (h : isR r = true) : kindOf r = 1 ∨ kindOf r = 2 := by
  rcases kindOf_le r with h' | h' | h'
  · exact absurd h' (isR_kind' h)
  · exact .inl h'
  · exact .inr h'

/-- A realm below another one, as texts. -/
theorem under_shape {r p : Str} (h : underOf r p = true) : (kindOf r = 1 ∧ kindOf p = 1 ∧ ∃ q, q ≠ [] ∧ r = q ++ 46 :: p) ∨ (kindOf r = 2 ∧ kindOf p = 2 ∧ ∃ q, r = p ++ 47 :: q) := by
  have h' := h
  simp only [underOf, Bool.and_eq_true, decide_eq_true_eq] at h'
  obtain ⟨h0, h1, h2, h3⟩ := h'
  obtain ⟨hG, he, _⟩ := good_of_kind h0
  obtain ⟨hG2, he2, _⟩ := good_of_kind (r := p) (by omega)
  obtain ⟨X, hX⟩ : ∃ X, (labelsOf r).1 = (labelsOf p).1 ++ X := ⟨(labelsOf r).1.drop (labelsOf p).1.length, by conv => lhs; rw [← List.take_append_drop (labelsOf p).1.length (labelsOf r).1, h3]⟩
  have hX0 : X ≠ [] := by intro e; rw [hX, e] at h2; simp at h2
  rcases kindOf_le r with hk | hk | hk
  · exact absurd hk h0
  · left
    have hk2 : kindOf p = 1 := by omega
    refine ⟨hk, hk2, joinOn 46 X.reverse, ?_, ?_⟩
    · obtain ⟨b, t, e, _⟩ := joinOn_head (c := 46) (l := X.reverse) (by simpa using hX0) (fun x hx => hG.word x (by rw [hX]; simp at hx; simp [hx]))
      rw [e]; simp
    · rw [hk] at he
      rw [hk2] at he2
      conv => lhs; rw [← he]
      conv => rhs; rw [← he2]
      unfold realmOf
      rw [if_neg hG.ne, if_neg hG2.ne, if_neg (by decide), if_neg (by decide), hX, List.reverse_append, joinOn_append 46 _ _ (by simpa using hX0) (by simpa using hG2.ne)]
  · right
    have hk2 : kindOf p = 2 := by omega
    refine ⟨hk, hk2, joinOn 47 X, ?_⟩
    rw [hk] at he
    rw [hk2] at he2
    conv => lhs; rw [← he]
    conv => rhs; rw [← he2]
    unfold realmOf
    rw [if_neg hG.ne, if_neg hG2.ne, if_pos rfl, if_pos rfl, hX, joinOn_append 47 _ _ hG2.ne hX0]
    rfl

theorem short_under1 {r p : Str} (h : underOf r p = true) (hk : kindOf r = 1) : ∃ q, q ≠ [] ∧ r = q ++ 46 :: p ∧ shortOf r p = q ++ [46] := by
  rcases under_shape h with ⟨_, _, q, hq, e⟩ | ⟨h2, _⟩
  · refine ⟨q, hq, e, ?_⟩
    unfold shortOf
    rw [if_pos h, if_pos hk, e, show q ++ 46 :: p = (q ++ [46]) ++ p by simp, List.length_append, Nat.add_sub_cancel, List.take_left]
  · omega
theorem short_under2 {r p : Str} (h : underOf r p = true) (hk : kindOf r = 2) : ∃ q, kindOf p = 2 ∧ r = p ++ 47 :: q ∧ shortOf r p = 47 :: q := by
  rcases under_shape h with ⟨h2, _⟩ | ⟨_, h2, q, e⟩
  · omega
  · refine ⟨q, h2, e, ?_⟩
    unfold shortOf
    rw [if_pos h, if_neg (by omega), e, List.drop_left]

theorem sub_of_raw {s p r : Str} (h : subRaw s p = some r) (hr : isR r = true) : subOf s p = some r := by
  unfold subOf
  rw [h]
  simp only
  rw [if_pos hr]
/-- A domain that stands for itself; an other one behind a blank. -/
theorem sub_dom {r : Str} (p : Str) (h : kindOf r = 1) : subOf r p = some r := by
  have hr := kind_isR (r := r) (by omega)
  refine sub_of_raw ?_ hr
  unfold subRaw
  rw [if_neg (realm_nodot hr), if_neg (head1_not h 47 (by decide)), if_neg (head1_not h 32 (by decide))]
theorem sub_blank {r : Str} (p : Str) (h : kindOf r = 2) : subOf (32 :: r) p = some r := by
  have hr := kind_isR (r := r) (by omega)
  refine sub_of_raw ?_ hr
  unfold subRaw
  have e : (32 :: r).getLast? = r.getLast? := by
    obtain ⟨b, h1, _⟩ := realm_last hr
    rw [List.getLast?_cons, h1]
    rfl
  rw [e, if_neg (realm_nodot hr), if_neg (by simp), if_pos (by rfl), if_pos (by exact realm_head2 h)]
  rfl
theorem sub_first {r : Str} (h : isR r = true) : subOf r [] = some r := by
  rcases isR_cases h with hk | hk
  · exact sub_dom [] hk
  · refine sub_of_raw ?_ h
    unfold subRaw
    rw [if_neg (realm_nodot h), if_pos (realm_head2 hk), if_neg (by decide)]
theorem sub_short {r p : Str} (hr : isR r = true) (hp : isR p = true) : subOf (shortOf r p) p = some r := by
  rcases isR_cases hr with hk | hk
  · by_cases hu : underOf r p = true
    · obtain ⟨q, hq, e, es⟩ := short_under1 hu hk
      refine sub_of_raw ?_ hr
      unfold subRaw
      rw [es, if_pos (by simp), if_neg (realm_nil hp), e]
      simp
    · have e : shortOf r p = r := by unfold shortOf; rw [if_neg hu, if_neg (by omega)]
      rw [e]
      exact sub_dom p hk
  · by_cases hu : underOf r p = true
    · obtain ⟨q, hk2, e, es⟩ := short_under2 hu hk
      refine sub_of_raw ?_ hr
      unfold subRaw
      have hl : (47 :: q).getLast? ≠ some 46 := by
        have := realm_nodot hr
        rw [e, List.getLast?_append] at this
        intro h
        rw [h] at this
        exact this rfl
      rw [es, if_neg hl, if_pos (by rfl), if_pos hk2, e]
    · have e : shortOf r p = 32 :: r := by unfold shortOf; rw [if_neg hu, if_pos hk]
      rw [e]
      exact sub_blank p hk
theorem short_nil {r p : Str} (hr : isR r = true) : shortOf r p ≠ [] := by
  unfold shortOf
  by_cases hu : underOf r p = true
  · rcases isR_cases hr with hk | hk
    · obtain ⟨q, hq, e, es⟩ := short_under1 hu hk
      have := es
      unfold shortOf at this
      rw [this]; simp
    · obtain ⟨q, hk2, e, es⟩ := short_under2 hu hk
      have := es
      unfold shortOf at this
      rw [this]; simp
  · rw [if_neg hu]
    split
    · simp
    · exact realm_nil hr
theorem short_bytes {r p : Str} {c : UInt8} (hr : isR r = true) (hc : c ≠ 32) (h : c ∈ shortOf r p) : c ∈ r := by
  unfold shortOf at h
  split at h
  · split at h
    · exact List.mem_of_mem_take h
    · exact List.mem_of_mem_drop h
  · split at h
    · rw [List.mem_cons] at h
      rcases h with h | h
      · exact absurd h hc
      · exact h
    · exact h
theorem short_comma {r p : Str} (hr : isR r = true) : 44 ∉ shortOf r p := fun h => realm_no hr 44 (by decide) (by decide) (by decide) (short_bytes hr (by decide) h)

theorem shortsOn_mem {p : Str} {t : List Str} (ht : ∀ r ∈ t, isR r = true) : ∀ x ∈ shortsOn p t, x ≠ [] ∧ 44 ∉ x := by
  induction t generalizing p with
  | nil => intro x hx; simp [shortsOn] at hx
  | cons r t ih =>
    intro x hx
    simp only [shortsOn, List.mem_cons] at hx
    rcases hx with rfl | hx
    · exact ⟨short_nil (ht r (by simp)), short_comma (ht r (by simp))⟩
    · exact ih (fun y hy => ht y (by simp [hy])) x hx
theorem shorts_mem {t : List Str} (ht : ∀ r ∈ t, isR r = true) : ∀ x ∈ shorts t, x ≠ [] ∧ 44 ∉ x := by
  cases t with
  | nil => intro x hx; simp [shorts] at hx
  | cons r t =>
    intro x hx
    simp only [shorts, List.mem_cons] at hx
    rcases hx with rfl | hx
    · exact ⟨realm_nil (ht x (by simp)), realm_no (ht x (by simp)) 44 (by decide) (by decide) (by decide)⟩
    · exact shortsOn_mem (fun y hy => ht y (by simp [hy])) x hx
theorem shortsOn_take (p : Str) (t : List Str) (n : Nat) : (shortsOn p t).take n = shortsOn p (t.take n) := by
  induction t generalizing p n with
  | nil => simp [shortsOn]
  | cons r t ih =>
    cases n with
    | zero => rfl
    | succ n => simp [shortsOn, ih]
theorem shorts_take (t : List Str) (n : Nat) : (shorts t).take n = shorts (t.take n) := by
  cases t with
  | nil => simp [shorts]
  | cons r t =>
    cases n with
    | zero => rfl
    | succ n => simp [shorts, shortsOn_take]
theorem shortsOn_len (p : Str) (t : List Str) : (shortsOn p t).length = t.length := by
  induction t generalizing p with
  | nil => rfl
  | cons r t ih => simp [shortsOn, ih]
theorem shorts_len (t : List Str) : (shorts t).length = t.length := by
  cases t with
  | nil => rfl
  | cons r t => simp [shorts, shortsOn_len]

theorem addOf_new {l : List Str} {r : Str} (h : r ∉ l) : addOf l r = l ++ [r] := by unfold addOf; rw [if_neg h]
theorem addOf_old {l : List Str} {r : Str} (h : r ∈ l) : addOf l r = l := by unfold addOf; rw [if_pos h]
theorem addOf_len (l : List Str) (r : Str) : l.length ≤ (addOf l r).length ∧ (addOf l r).length ≤ l.length + 1 := by
  unfold addOf
  split
  · omega
  · simp
theorem addsOf_cons (l : List Str) (r : Str) (t : List Str) : addsOf l (r :: t) = addsOf (addOf l r) t := rfl
theorem addsOf_append (l t u : List Str) : addsOf l (t ++ u) = addsOf (addsOf l t) u := by unfold addsOf; exact List.foldl_append
theorem addsOf_len (l t : List Str) : l.length ≤ (addsOf l t).length ∧ (addsOf l t).length ≤ l.length + t.length := by
  induction t generalizing l with
  | nil => exact ⟨Nat.le_refl _, Nat.le_refl _⟩
  | cons r t ih =>
    have h1 := addOf_len l r
    have h2 := ih (addOf l r)
    rw [addsOf_cons]
    simp only [List.length_cons]
    omega
theorem addOf_mem {l : List Str} {r x : Str} : x ∈ addOf l r ↔ x ∈ l ∨ x = r := by
  unfold addOf
  split
  · rename_i h
    constructor
    · exact .inl
    · rintro (h' | rfl)
      · exact h'
      · exact h
  · simp
theorem addsOf_mem {l t : List Str} {x : Str} : x ∈ addsOf l t ↔ x ∈ l ∨ x ∈ t := by
  induction t generalizing l with
  | nil => simp [addsOf]
  | cons r t ih =>
    rw [addsOf_cons, ih, addOf_mem, List.mem_cons]
    constructor
    · rintro ((h | h) | h)
      · exact .inl h
      · exact .inr (.inl h)
      · exact .inr (.inr h)
    · rintro (h | h | h)
      · exact .inl (.inl h)
      · exact .inl (.inr h)
      · exact .inr h
theorem addOf_nodup {l : List Str} {r : Str} (h : l.Nodup) : (addOf l r).Nodup := by
  unfold addOf
  split
  · exact h
  · rename_i hr
    rw [List.nodup_append]
    refine ⟨h, by simp, ?_⟩
    intro a ha b hb
    simp only [List.mem_singleton] at hb
    subst hb
    exact fun e => hr (e ▸ ha)
theorem addsOf_nodup {l t : List Str} (h : l.Nodup) : (addsOf l t).Nodup := by
  induction t generalizing l with
  | nil => exact h
  | cons r t ih => exact ih (addOf_nodup h)
theorem addsOf_old {l t : List Str} (h : ∀ x ∈ t, x ∈ l) : addsOf l t = l := by
  induction t with
  | nil => rfl
  | cons r t ih =>
    rw [addsOf_cons, addOf_old (h r (by simp))]
    exact ih (fun x hx => h x (by simp [hx]))
theorem addsOf_new {l t : List Str} (h : (l ++ t).Nodup) : addsOf l t = l ++ t := by
  induction t generalizing l with
  | nil => simp [addsOf]
  | cons r t ih =>
    have hr : r ∉ l := by
      rw [List.nodup_append] at h
      exact fun hm => h.2.2 r hm r (by simp) rfl
    rw [addsOf_cons, addOf_new hr, ih (by simpa using h)]
    simp

theorem exGo_cons (c v f : Str) (fs l : List Str) (p : Str) (null : Bool) : exGo c v (f :: fs) l p null = if f = [] then exGo c v fs l p true else match subOf f p with
    | none => ([], 2)
    | some r => if 8 < (addOf (fillOf c r l p null) r).length then ([], 13) else exGo c v fs (addOf (fillOf c r l p null) r) r false := by rw [exGo]
theorem exGo_nil (c v : Str) (l : List Str) (p : Str) (null : Bool) : exGo c v [] l p null = if 8 < (fillOf c v l p null).length then ([], 13) else (fillOf c v l p null, 0) := by rw [exGo]

/-- Fields that each stand for a realm behind the one ahead. -/
theorem exGo_shorts (c v : Str) (rest : List Str) : ∀ (t : List Str) (p : Str) (l : List Str), (∀ r ∈ t, isR r = true) → isR p = true → (l ++ t).Nodup → (l ++ t).length ≤ 8 → exGo c v (shortsOn p t ++ rest) l p false = exGo c v rest (l ++ t) (t.getLast?.getD p) false
  | [], p, l, _, _, _, _ => by simp [shortsOn]
  | r :: t, p, l, ht, hp, hn, h8 => by
    have hr : r ∉ l := by
      rw [List.nodup_append] at hn
      exact fun hm => hn.2.2 r hm r (by simp) rfl
    have hri := ht r (by simp)
    have e : exGo c v (shortsOn p (r :: t) ++ rest) l p false = exGo c v (shortsOn r t ++ rest) (l ++ [r]) r false := by
      show exGo c v (shortOf r p :: (shortsOn r t ++ rest)) l p false = _
      rw [exGo_cons, if_neg (short_nil hri), sub_short hri hp]
      simp only
      have e2 : fillOf c r l p false = l := rfl
      rw [e2, addOf_new hr, if_neg (by simp at h8 ⊢; omega)]
    rw [e, exGo_shorts c v rest t r (l ++ [r]) (fun y hy => ht y (by simp [hy])) hri (by simpa using hn) (by simpa using h8)]
    congr 1
    · simp
    · cases t with
      | nil => rfl
      | cons y t => simp [List.getLast?_cons]
theorem exGo_first (c v : Str) (rest : List Str) {r : Str} (h : isR r = true) : exGo c v (r :: rest) [] [] false = exGo c v rest [r] r false := by
  rw [exGo_cons, if_neg (realm_nil h), sub_first h]
  rfl
theorem exGo_all (c v : Str) (rest : List Str) (m : List Str) (hm : ∀ r ∈ m, isR r = true) (hn : m.Nodup) (h8 : m.length ≤ 8) : exGo c v (shorts m ++ rest) [] [] false = exGo c v rest m (m.getLast?.getD []) false := by
  cases m with
  | nil => rfl
  | cons r t =>
    show exGo c v (r :: (shortsOn r t ++ rest)) [] [] false = _
    rw [exGo_first c v _ (hm r (by simp)), exGo_shorts c v rest t r [r] (fun y hy => hm y (by simp [hy])) (hm r (by simp)) (by simpa using hn) (by simpa using h8)]
    congr 1
    cases t with
    | nil => rfl
    | cons y t => simp [List.getLast?_cons]

/-- Realms, each once, compressed and expanded are they. -/
theorem expand_compress {m : List Str} {c v : Str} (hm : ∀ r ∈ m, isR r = true) (hn : m.Nodup) (h8 : m.length ≤ 8) (hc : isR c = true) (hv : isR v = true) : expandOf (joinOn 44 (shorts m)) c v = (m, 0) := by
  unfold expandOf
  rw [if_neg (by rw [hc, hv]; simp)]
  cases m with
  | nil => rfl
  | cons r t =>
    have hne : joinOn 44 (shorts (r :: t)) ≠ [] := by
      intro e
      have h1 := splitOn_joinOn 44 (shorts (r :: t)) (by simp [shorts]) (fun x hx => (shorts_mem hm x hx).2)
      rw [e] at h1
      have : (shorts (r :: t)).head? = some [] := by rw [← h1]; rfl
      simp only [shorts, List.head?_cons, Option.some.injEq] at this
      exact realm_nil (hm r (by simp)) this
    rw [if_neg hne, splitOn_joinOn 44 (shorts (r :: t)) (by simp [shorts]) (fun x hx => (shorts_mem hm x hx).2)]
    have := exGo_all c v [] (r :: t) hm hn h8
    rw [List.append_nil] at this
    rw [this]
    rw [exGo_nil]
    have e2 : fillOf c v (r :: t) ((r :: t).getLast?.getD []) false = r :: t := rfl
    rw [e2, if_neg (by omega)]
theorem compress_ok {m : List Str} (hm : ∀ r ∈ m, isR r = true) (h8 : m.length ≤ 8) : compressOf m = (joinOn 44 (shorts m), 0) := by
  unfold compressOf
  rw [if_neg (by simp; exact fun x hx => hm x hx), if_neg (by omega)]

end Go.Proofs.YtjbdegcmolimoaaDoor
