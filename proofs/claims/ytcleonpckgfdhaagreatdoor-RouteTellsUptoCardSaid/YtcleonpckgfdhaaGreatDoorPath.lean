/-
  The way between two realms, in plain Lean.
-/
import Derived.Test.YtcleonpckgfdhaaGreatDoorText
set_option linter.unusedVariables false
set_option linter.unusedSimpArgs false
namespace Go.Proofs.YtcleonpckgfdhaaGreatDoor

def ends (a b r : Str) : Bool := r == a || r == b
def others (a b : Str) (l : List Str) : List Str := l.filter fun x => !ends a b x

/-- How many labels are alike, from the top. -/
def comLen : List Str → List Str → Nat
  | x :: l, y :: m => if x = y then comLen l m + 1 else 0
  | _, _ => 0
def sameLen (a b : Str) : Nat := if kindOf a = kindOf b then comLen (labelsOf a).1 (labelsOf b).1 else 0
/-- The realms of l's first labels: all but one, .., n + 1 of them. -/
def ups (l : List Str) (k n : Nat) : List Str := (List.range (l.length - 1 - n)).map fun i => realmOf (l.take (l.length - 1 - i)) k
/-- The realms of m's first lo, lo + 1, .. labels behind 'out', but for those that are there. -/
def dn (out : List Str) (m : List Str) (k lo : Nat) : Nat → List Str
  | 0 => out
  | i + 1 => if realmOf (m.take (lo + i)) k ∈ dn out m k lo i then dn out m k lo i else dn out m k lo i ++ [realmOf (m.take (lo + i)) k]
def betOf (a b : Str) : List Str :=
  if kindOf a = 0 ∨ kindOf b = 0 then [] else
    others a b (dn (ups (labelsOf a).1 (kindOf a) (max (sameLen a b) 1 - 1)) (labelsOf b).1 (kindOf b) (max (sameLen a b) 1) ((labelsOf b).1.length - max (sameLen a b) 1))

theorem comLen_le (l m : List Str) : comLen l m ≤ l.length ∧ comLen l m ≤ m.length := by
  induction l generalizing m with
  | nil => simp [comLen]
  | cons x l ih =>
    cases m with
    | nil => simp [comLen]
    | cons y m =>
      unfold comLen
      split
      · have := ih m; simp; omega
      · simp

theorem comLen_at (l m : List Str) : ∀ j, j < comLen l m → l[j]! = m[j]! := by
  induction l generalizing m with
  | nil => intro j h; simp [comLen] at h
  | cons x l ih =>
    cases m with
    | nil => intro j h; simp [comLen] at h
    | cons y m =>
      intro j h
      unfold comLen at h
      split at h
      · rename_i e
        cases j with
        | zero => simp [e]
        | succ j => simpa using ih m j (by omega)
      · omega

theorem comLen_stop (l m : List Str) (h1 : comLen l m < l.length) (h2 : comLen l m < m.length) : l[comLen l m]! ≠ m[comLen l m]! := by
  induction l generalizing m with
  | nil => simp at h1
  | cons x l ih =>
    cases m with
    | nil => simp at h2
    | cons y m =>
      unfold comLen at h1 h2 ⊢
      split
      · rename_i e
        rw [if_pos e] at h1 h2
        simpa using ih m (by simpa using h1) (by simpa using h2)
      · rename_i e
        simpa using e

theorem comLen_take (l m : List Str) (j : Nat) (h : j ≤ comLen l m) : l.take j = m.take j := by
  induction l generalizing m j with
  | nil => simp [comLen] at h; subst h; simp
  | cons x l ih =>
    cases m with
    | nil => simp [comLen] at h; subst h; simp
    | cons y m =>
      unfold comLen at h
      split at h
      · rename_i e
        cases j with
        | zero => simp
        | succ j => simp [e, ih m j (by omega)]
      · have : j = 0 := by omega
        subst this; simp

theorem comLen_of_take (l m : List Str) (j : Nat) (h1 : j ≤ l.length) (h2 : j ≤ m.length) (h : l.take j = m.take j) : j ≤ comLen l m := by
  induction l generalizing m j with
  | nil => simp at h1; omega
  | cons x l ih =>
    cases m with
    | nil => simp at h2; omega
    | cons y m =>
      cases j with
      | zero => omega
      | succ j =>
        simp only [List.take_succ_cons, List.cons.injEq] at h
        unfold comLen
        rw [if_pos h.1]
        have := ih m j (by simpa using h1) (by simpa using h2) h.2
        omega

theorem comLen_comm (l m : List Str) : comLen l m = comLen m l := by
  induction l generalizing m with
  | nil => cases m <;> simp [comLen]
  | cons x l ih =>
    cases m with
    | nil => simp [comLen]
    | cons y m =>
      unfold comLen
      by_cases e : x = y
      · rw [if_pos e, if_pos e.symm, ih m]
      · rw [if_neg e, if_neg (fun h => e h.symm)]

theorem sameLen_le (a b : Str) : sameLen a b ≤ (labelsOf a).1.length ∧ sameLen a b ≤ (labelsOf b).1.length := by
  unfold sameLen
  split
  · exact comLen_le _ _
  · simp

theorem ups_end (l : List Str) (k : Nat) : ups l k (l.length - 1) = [] := by simp [ups]
theorem ups_next (l : List Str) (k n : Nat) (h : n + 1 < l.length) : ups l k n = ups l k (n + 1) ++ [realmOf (l.take (n + 1)) k] := by
  unfold ups
  rw [show l.length - 1 - n = (l.length - 1 - (n + 1)) + 1 by omega, List.range_succ, List.map_append]
  simp only [List.map_cons, List.map_nil]
  rw [show l.length - 1 - (l.length - 1 - (n + 1)) = n + 1 by omega]
theorem ups_length (l : List Str) (k n : Nat) : (ups l k n).length = l.length - 1 - n := by simp [ups]
theorem dn_length (out m : List Str) (k lo i : Nat) : (dn out m k lo i).length ≤ out.length + i := by
  induction i with
  | zero => simp [dn]
  | succ i ih =>
    unfold dn
    split
    · omega
    · simp; omega

end Go.Proofs.YtcleonpckgfdhaaGreatDoor
