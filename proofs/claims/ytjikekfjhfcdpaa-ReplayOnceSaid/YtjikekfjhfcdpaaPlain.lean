/-
  What replay.See computes, in plain Lean: a list of authenticators, and the answers.
-/
import Derived.Below
namespace Go.Proofs.Ytjikekfjhfcdpaa
open Go Go.RowKit

/-- An authenticator. -/
structure Au where
  realm : ByteArray
  name : ByteArray
  time : Int
  seq : Int

instance : Inhabited Au := ⟨⟨ByteArray.empty, ByteArray.empty, 0, 0⟩⟩

/-- Its four cells. -/
def enc (a : Au) : List Value := [.string a.realm, .string a.name, .int .i64 a.time, .int .i64 a.seq]

/-- Go's '==' at it. -/
def same (a b : Au) : Bool := a.realm.toList == b.realm.toList && (a.name.toList == b.name.toList && (a.time == b.time && a.seq == b.seq))

theorem enc_length (a : Au) : (enc a).length = 4 := rfl
theorem enc_one (a : Au) : ∀ u ∈ enc a, u.oneCell' = true := by
  intro u hu
  simp [enc] at hu
  rcases hu with rfl | rfl | rfl | rfl <;> rfl

/-- The cells of a list of them. -/
def encs (l : List Au) : List Value := l.flatMap enc
theorem encs_length (l : List Au) : (encs l).length = l.length * 4 := by
  induction l with
  | nil => rfl
  | cons a l ih => simp only [encs, List.flatMap_cons, List.length_append, List.length_cons] at ih ⊢; rw [ih, enc_length]; omega
theorem encs_append (l m : List Au) : encs (l ++ m) = encs l ++ encs m := by simp [encs]
theorem encs_cons (a : Au) (l : List Au) : encs (a :: l) = enc a ++ encs l := rfl
theorem encs_one (l : List Au) : ∀ u ∈ encs l, u.oneCell' = true := by
  intro u hu
  simp only [encs, List.mem_flatMap] at hu
  obtain ⟨a, _, h⟩ := hu
  exact enc_one a u h

/-- Cell c of element j. -/
theorem encs_get (l : List Au) (j c : Nat) (hj : j < l.length) (hc : c < 4) : (encs l)[j * 4 + c]? = (enc l[j]!)[c]? := by
  induction l generalizing j with
  | nil => simp at hj
  | cons a l ih =>
    rw [encs_cons]
    cases j with
    | zero => rw [List.getElem?_append_left (by rw [enc_length]; omega)]; simp
    | succ j =>
      rw [List.getElem?_append_right (by rw [enc_length]; omega), enc_length, show (j + 1) * 4 + c - 4 = j * 4 + c by omega, ih j (by simpa using hj)]
      simp

theorem encs_take (l : List Au) (n : Nat) : (encs l).take (n * 4) = encs (l.take n) := by
  induction l generalizing n with
  | nil => simp [encs]
  | cons a l ih =>
    cases n with
    | zero => simp [encs]
    | succ n =>
      rw [encs_cons, List.take_succ_cons, encs_cons, show (n + 1) * 4 = 4 + n * 4 by omega, List.take_append, enc_length]
      rw [List.take_of_length_le (by rw [enc_length]; omega), show 4 + n * 4 - 4 = n * 4 by omega, ih]

theorem encs_set (l : List Au) (i : Nat) (x : Au) (hi : i < l.length) (tl : List Value) :
    ((((encs l ++ tl).set (i * 4) (.string x.realm)).set (i * 4 + 1) (.string x.name)).set (i * 4 + 2) (.int .i64 x.time)).set (i * 4 + 3) (.int .i64 x.seq) = encs (l.set i x) ++ tl := by
  induction l generalizing i with
  | nil => simp at hi
  | cons a l ih =>
    cases i with
    | zero => simp [encs_cons, enc]
    | succ i =>
      have := ih i (by simpa using hi)
      rw [List.set_cons_succ, encs_cons, encs_cons, List.append_assoc, List.append_assoc]
      rw [show (i + 1) * 4 = i * 4 + 4 by omega]
      simp only [enc, List.cons_append, List.nil_append, List.set_cons_succ, Nat.add_right_comm _ 4]
      rw [this]

end Go.Proofs.Ytjikekfjhfcdpaa
