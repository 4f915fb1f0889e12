/-
  Realms as texts, in plain Lean: bytes, labels, kinds.
-/
import Derived.Lib.SplitLaws
import Derived.Lib.IndexBytes
import Derived.Lib.Join
import Derived.Lib.SlTrimSet
set_option linter.unusedVariables false
set_option linter.unusedSimpArgs false
namespace Go.Proofs.YtcleonpckgfdhaaGreatDoor
open Go

abbrev Str := List UInt8

def upB (b : UInt8) : Bool := decide (65 ≤ b.toNat) && decide (b.toNat ≤ 90)
def smB (b : UInt8) : Bool := (decide (97 ≤ b.toNat) && decide (b.toNat ≤ 122)) || (decide (48 ≤ b.toNat) && decide (b.toNat ≤ 57))
def word (p : UInt8 → Bool) (s : Str) : Bool := decide (1 ≤ s.length) && (decide (s.length ≤ 8) && s.all p)

/-- What stands between the c's. -/
def splitOn (c : UInt8) : Str → List Str
  | [] => [[]]
  | b :: s => if b = c then [] :: splitOn c s else match splitOn c s with
    | [] => [[b]]
    | x :: r => (b :: x) :: r

def joinOn (c : UInt8) : List Str → Str
  | [] => []
  | [x] => x
  | x :: y :: r => x ++ c :: joinOn c (y :: r)

theorem joinOn_cons (c : UInt8) (x : Str) (r : List Str) (h : r ≠ []) : joinOn c (x :: r) = x ++ c :: joinOn c r := by
  cases r with
  | nil => exact absurd rfl h
  | cons y r => rfl

theorem splitOn_ne (c : UInt8) (s : Str) : splitOn c s ≠ [] := by
  cases s with
  | nil => simp [splitOn]
  | cons b s =>
    unfold splitOn
    split
    · simp
    · split <;> simp

theorem joinOn_splitOn (c : UInt8) (s : Str) : joinOn c (splitOn c s) = s := by
  induction s with
  | nil => rfl
  | cons b s ih =>
    unfold splitOn
    split
    · rename_i h
      rw [joinOn_cons c [] _ (splitOn_ne c s), ih, h]
      rfl
    · have hne := splitOn_ne c s
      cases hs : splitOn c s with
      | nil => exact absurd hs hne
      | cons x r =>
        rw [hs] at ih
        simp only
        cases r with
        | nil => rw [← ih]; rfl
        | cons y r => rw [joinOn_cons c _ _ (by simp)] at ih ⊢; rw [← ih]; rfl

theorem splitOn_none {c : UInt8} {x : Str} (h : c ∉ x) : splitOn c x = [x] := by
  induction x with
  | nil => rfl
  | cons b x ih =>
    simp only [List.mem_cons, not_or] at h
    unfold splitOn
    rw [if_neg (fun e => h.1 e.symm), ih h.2]

theorem splitOn_app {c : UInt8} {x : Str} (h : c ∉ x) (s : Str) : splitOn c (x ++ c :: s) = x :: splitOn c s := by
  induction x with
  | nil =>
    show splitOn c (c :: s) = _
    rw [splitOn, if_pos rfl]
  | cons b x ih =>
    simp only [List.mem_cons, not_or] at h
    rw [List.cons_append, splitOn, if_neg (fun e => h.1 e.symm), ih h.2]

theorem splitOn_joinOn (c : UInt8) (l : List Str) (hl : l ≠ []) (h : ∀ x ∈ l, c ∉ x) : splitOn c (joinOn c l) = l := by
  induction l with
  | nil => exact absurd rfl hl
  | cons x r ih =>
    by_cases hr : r = []
    · subst hr
      exact splitOn_none (h x (by simp))
    · rw [joinOn_cons c x r hr, splitOn_app (h x (by simp)), ih hr (fun y hy => h y (by simp [hy]))]

theorem splitOn_parts (c : UInt8) (s : Str) : ∀ x ∈ splitOn c s, c ∉ x := by
  induction s with
  | nil => intro x hx; simp [splitOn] at hx; subst hx; simp
  | cons b s ih =>
    intro x hx
    unfold splitOn at hx
    split at hx
    · rcases List.mem_cons.1 hx with rfl | hx
      · simp
      · exact ih x hx
    · rename_i hb
      cases hs : splitOn c s with
      | nil => exact absurd hs (splitOn_ne c s)
      | cons y r =>
        rw [hs] at hx ih
        rcases List.mem_cons.1 hx with rfl | hx
        · simp only [List.mem_cons, not_or]
          exact ⟨fun e => hb e.symm, ih y (by simp)⟩
        · exact ih x (by simp [hx])

theorem splitOn_len (c : UInt8) (s : Str) : (splitOn c s).length ≤ s.length + 1 := by
  induction s with
  | nil => simp [splitOn]
  | cons b s ih =>
    unfold splitOn
    split
    · simp; exact ih
    · split
      · simp
      · rename_i x r e
        rw [e] at ih
        simp at ih ⊢
        omega

/-! ### the labels of a realm, the top first, and its kind -/
def parts (r : Str) : List Str × Nat := match r with
  | 47 :: t => (splitOn 47 t, 2)
  | r => ((splitOn 46 r).reverse, 1)
def labelsOf (r : Str) : List Str × Nat := if 4 < (parts r).1.length ∨ (parts r).1.any (fun s => !word upB s) = true then ([], 0) else parts r
def kindOf (r : Str) : Nat := (labelsOf r).2
def isR (r : Str) : Bool := kindOf r != 0
def realmOf (l : List Str) (k : Nat) : Str := if l = [] then [] else if k = 2 then 47 :: joinOn 47 l else joinOn 46 l.reverse
def upOf (r : Str) : Str := if kindOf r = 0 then [] else realmOf (labelsOf r).1.dropLast (kindOf r)
def underOf (a b : Str) : Bool := decide (kindOf a ≠ 0) && (decide (kindOf a = kindOf b) && (decide ((labelsOf b).1.length < (labelsOf a).1.length) && decide ((labelsOf a).1.take (labelsOf b).1.length = (labelsOf b).1)))

/-- Labels that may be a realm's. -/
structure Good (l : List Str) (k : Nat) : Prop where
  kind : k = 1 ∨ k = 2
  ne : l ≠ []
  few : l.length ≤ 4
  word : ∀ x ∈ l, word upB x = true

theorem word_up {x : Str} (h : word upB x = true) : 1 ≤ x.length ∧ x.length ≤ 8 ∧ ∀ b ∈ x, 65 ≤ b.toNat ∧ b.toNat ≤ 90 := by
  simp only [word, Bool.and_eq_true, decide_eq_true_eq, List.all_eq_true, upB] at h
  exact h

theorem word_not {x : Str} (h : word upB x = true) (c : UInt8) (hc : c.toNat < 65) : c ∉ x := fun hm => by
  have := (word_up h).2.2 c hm
  omega

theorem Good.take {l : List Str} {k : Nat} (h : Good l k) {j : Nat} (hj : 0 < j) : Good (l.take j) k := by
  refine ⟨h.kind, ?_, ?_, fun x hx => h.word x (List.mem_of_mem_take hx)⟩
  · intro e
    rcases List.take_eq_nil_iff.1 e with e | e
    · omega
    · exact h.ne e
  · have := h.few
    simp; omega

theorem joinOn_head {c : UInt8} {l : List Str} (hl : l ≠ []) (h : ∀ x ∈ l, word upB x = true) : ∃ b t, joinOn c l = b :: t ∧ 65 ≤ b.toNat := by
  cases l with
  | nil => exact absurd rfl hl
  | cons x r =>
    have hw := word_up (h x (by simp))
    cases x with
    | nil => simp at hw
    | cons b x =>
      refine ⟨b, ?_⟩
      have hb := (hw.2.2 b (by simp)).1
      by_cases hr : r = []
      · subst hr; exact ⟨x, rfl, hb⟩
      · rw [joinOn_cons c _ r hr]; exact ⟨_, rfl, hb⟩

theorem parts_realm {l : List Str} {k : Nat} (h : Good l k) : parts (realmOf l k) = (l, k) := by
  unfold realmOf
  rw [if_neg h.ne]
  rcases h.kind with rfl | rfl
  · rw [if_neg (by decide)]
    have hr : l.reverse ≠ [] := by simpa using h.ne
    have hw : ∀ x ∈ l.reverse, word upB x = true := fun x hx => h.word x (by simpa using hx)
    obtain ⟨b, t, e, hb⟩ := joinOn_head (c := 46) hr hw
    have hs := splitOn_joinOn 46 l.reverse hr (fun x hx => word_not (hw x hx) 46 (by decide))
    rw [e] at hs ⊢
    unfold parts
    split
    · rename_i t' e'
      simp only [List.cons.injEq] at e'
      rw [e'.1] at hb
      exact absurd hb (by decide)
    · rw [hs]; simp
  · rw [if_pos rfl]
    unfold parts
    simp only
    rw [splitOn_joinOn 47 l h.ne (fun x hx => word_not (h.word x hx) 47 (by decide))]

theorem labels_realm {l : List Str} {k : Nat} (h : Good l k) : labelsOf (realmOf l k) = (l, k) := by
  unfold labelsOf
  rw [parts_realm h, if_neg]
  intro e
  rcases e with e | e
  · have := h.few; simp at e; omega
  · simp only [List.any_eq_true, Bool.not_eq_true'] at e
    obtain ⟨x, hx, e⟩ := e
    rw [h.word x hx] at e
    cases e

theorem parts_kind (r : Str) : (parts r).2 = 1 ∨ (parts r).2 = 2 := by
  unfold parts
  split <;> simp

theorem parts_ne (r : Str) : (parts r).1 ≠ [] := by
  unfold parts
  split
  · exact splitOn_ne _ _
  · simpa using splitOn_ne _ _

theorem realm_parts (r : Str) : realmOf (parts r).1 (parts r).2 = r := by
  unfold realmOf
  rw [if_neg (parts_ne r)]
  unfold parts
  split
  · simp only [if_true]
    rw [joinOn_splitOn]
  · simp only
    rw [if_neg (by decide), List.reverse_reverse, joinOn_splitOn]

theorem good_of_kind {r : Str} (h : kindOf r ≠ 0) : Good (labelsOf r).1 (kindOf r) ∧ realmOf (labelsOf r).1 (kindOf r) = r ∧ labelsOf r = parts r := by
  unfold kindOf at h ⊢
  by_cases hc : 4 < (parts r).1.length ∨ (parts r).1.any (fun s => !word upB s) = true
  · unfold labelsOf at h
    rw [if_pos hc] at h
    exact absurd rfl h
  · have e : labelsOf r = parts r := by unfold labelsOf; rw [if_neg hc]
    rw [e]
    refine ⟨⟨parts_kind r, parts_ne r, by omega, fun x hx => ?_⟩, realm_parts r, rfl⟩
    simp only [not_or, List.any_eq_true, not_exists, not_and, Bool.not_eq_true', Bool.not_eq_false] at hc
    simpa using hc.2 x hx

theorem kind_realm {l : List Str} {k : Nat} (h : Good l k) : kindOf (realmOf l k) = k := by unfold kindOf; rw [labels_realm h]
theorem Good.kind_ne {l : List Str} {k : Nat} (h : Good l k) : k ≠ 0 := by rcases h.kind with rfl | rfl <;> decide
theorem realm_inj {l m : List Str} {k j : Nat} (h : Good l k) (h' : Good m j) (e : realmOf l k = realmOf m j) : l = m ∧ k = j := by
  have h1 := labels_realm h
  rw [e, labels_realm h'] at h1
  simp only [Prod.mk.injEq] at h1
  exact ⟨h1.1.symm, h1.2.symm⟩
theorem realm_ne {l : List Str} {k : Nat} (h : Good l k) : realmOf l k ≠ [] := by
  intro e
  have h1 := labels_realm h
  rw [e] at h1
  have : labelsOf [] = ([], 0) := by decide
  rw [this] at h1
  simp only [Prod.mk.injEq] at h1
  exact h.ne h1.1.symm
theorem kindOf_le (r : Str) : kindOf r = 0 ∨ kindOf r = 1 ∨ kindOf r = 2 := by
  by_cases h : kindOf r = 0
  · exact .inl h
  · exact .inr (good_of_kind h).1.kind
theorem labels_none {r : Str} (h : kindOf r = 0) : labelsOf r = ([], 0) := by
  unfold kindOf labelsOf at h
  unfold labelsOf
  split
  · rfl
  · rename_i hc
    rw [if_neg hc] at h
    rcases parts_kind r with e | e <;> rw [e] at h <;> cases h
theorem labels_len (r : Str) : (labelsOf r).1.length ≤ 4 := by
  by_cases h : kindOf r = 0
  · rw [labels_none h]; simp
  · exact (good_of_kind h).1.few

/-! ### what strings.Split and strings.Trim hand back -/
theorem splitK_one (c : UInt8) : ∀ (k : Nat) (s : Str), s.count c = k → Lib.splitK [c] 0 k s = splitOn c s := by
  intro k
  induction k with
  | zero =>
    intro s h
    rw [splitOn_none (List.count_eq_zero.1 h)]
    rfl
  | succ k ih =>
    intro s h
    obtain ⟨x, t, e, hx⟩ : ∃ x t, s = x ++ c :: t ∧ c ∉ x := by
      clear ih
      induction s with
      | nil => simp at h
      | cons b s ih =>
        by_cases e : b = c
        · exact ⟨[], s, by rw [e]; rfl, by simp⟩
        · rw [List.count_cons_of_ne e] at h
          obtain ⟨x, t, e1, e2⟩ := ih h
          exact ⟨b :: x, t, by rw [e1]; rfl, by simp only [List.mem_cons, not_or]; exact ⟨fun h => e h.symm, e2⟩⟩
    subst e
    have hix : Lib.index (x ++ c :: t) [c] = x.length := by
      rw [Lib.index_one]
      clear h
      induction x with
      | nil => simp [Lib.indexByte]
      | cons b x ihx =>
        simp only [List.mem_cons, not_or] at hx
        have hbc : (b == c) = false := by simpa using fun e => hx.1 e.symm
        rw [List.cons_append, Lib.indexByte, hbc, ihx hx.2]
        simp
    unfold Lib.splitK
    rw [hix, splitOn_app hx]
    rw [if_neg (by simp)]
    simp only [Int.toNat_natCast, Nat.add_zero, List.length_singleton]
    rw [List.take_left' rfl, show x.length + 1 = (x ++ [c]).length by simp, show x ++ c :: t = (x ++ [c]) ++ t by simp, List.drop_left' rfl, ih t]
    have : (x ++ c :: t).count c = x.count c + (c :: t).count c := List.count_append
    rw [this, List.count_eq_zero.2 hx] at h
    simp at h
    omega

theorem dropWhile_nil_iff {p : UInt8 → Bool} (l : Str) : l.dropWhile p = [] ↔ ∀ x ∈ l, p x = true := by
  induction l with
  | nil => simp
  | cons b l ih =>
    simp only [List.dropWhile_cons]
    cases h : p b <;> simp [h, ih]

theorem trimS_nil (s cs : Str) : Lib.trimS s cs = [] ↔ s.all (cs.contains ·) = true := by
  unfold Lib.trimS Lib.trimLeftS Lib.trimRightS
  constructor
  · intro h
    rw [dropWhile_nil_iff] at h
    by_cases hn : (s.reverse.dropWhile (cs.contains ·)) = []
    · rw [dropWhile_nil_iff] at hn
      rw [List.all_eq_true]
      exact fun x hx => hn x (by simpa using hx)
    · exfalso
      have := List.head_dropWhile_not (p := (cs.contains ·)) (l := s.reverse) hn
      rw [h _ (by simp)] at this
      cases this
  · intro h
    have : s.reverse.dropWhile (cs.contains ·) = [] := by
      rw [dropWhile_nil_iff]
      exact fun x hx => List.all_eq_true.1 h x (by simpa using hx)
    rw [this]
    rfl

end Go.Proofs.YtcleonpckgfdhaaGreatDoor
