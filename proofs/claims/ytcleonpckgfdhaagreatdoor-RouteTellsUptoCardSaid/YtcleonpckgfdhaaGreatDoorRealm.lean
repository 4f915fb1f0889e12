/-
  name.realm; slices.Clone and strings.Join at rows of texts.
-/
import Derived.Test.YtcleonpckgfdhaaGreatDoorLabels
import Derived.Lib.SmallJoins
set_option linter.unusedVariables false
set_option linter.unusedSimpArgs false
namespace Go.Proofs.YtcleonpckgfdhaaGreatDoor
open Go Go.RowKit Go.Lib Go.Shelf

theorem join_eq (c : UInt8) : ∀ l : List Str, Lib.join l [c] = joinOn c l
  | [] => rfl
  | [x] => Lib.join_one x [c]
  | x :: y :: r => by
    have ih := join_eq c (y :: r)
    rw [Lib.join_cons] at ih
    rw [Lib.join_cons, joinOn_cons c x (y :: r) (by simp), ← ih]
    simp [Lib.joinTail]

def bytesOf (l : List Str) : List ByteArray := l.map fun x => ⟨x.toArray⟩
theorem bytesOf_len (l : List Str) : (bytesOf l).length = l.length := by simp [bytesOf]
theorem bytesOf_data (l : List Str) : (bytesOf l).map (·.data.toList) = l := by
  unfold bytesOf
  rw [List.map_map]
  exact List.map_id _
theorem bytesOf_val (l : List Str) : (bytesOf l).map Value.string = strs l := by unfold bytesOf; rw [List.map_map]; rfl
theorem bytesOf_get (l : List Str) (j : Nat) (hj : j < l.length) : (bytesOf l).getD j ByteArray.empty = ⟨l[j]!.toArray⟩ := by
  rw [List.getD_eq_getElem?_getD, List.getElem?_eq_getElem (by rw [bytesOf_len]; exact hj), getElem!_pos l j hj]
  simp [bytesOf]

theorem join_any (w : World) (ad : Option Addr) (n c : Nat) (l : List Str) (sep : UInt8) (hA : At w ad n l) (hc : n ≤ c) (hlen : (joinOn sep l).length ≤ 100000) (hn : n ≤ 100000) :
    Calls Tryz.prog 59 #[.slice ad n c, .string ⟨#[sep]⟩] w fun e w' => e = .returned (.string ⟨(joinOn sep l).toArray⟩) ∧ Below w.heap.size w w' := by
  have hl := hA.len
  by_cases h0 : n = 0
  · subst h0
    have : l = [] := List.length_eq_zero_iff.1 hl
    subst this
    refine (Tryz.strings_Join_none ad c ⟨#[sep]⟩ w).mono ?_
    rintro e w' ⟨rfl, rfl⟩
    exact ⟨rfl, Below.refl _ _⟩
  · obtain ⟨b, off, rfl, hlt, hcell⟩ := hA.cell (by omega)
    have hb : (bytesOf l).length = n := by rw [bytesOf_len, hl]
    have hj : Lib.join ((bytesOf l).map (·.data.toList)) [sep] = joinOn sep l := by rw [bytesOf_data, join_eq]
    have := Tryz.strings_Join b off c (bytesOf l) ⟨#[sep]⟩ w (fun j x hx => by
      have hj : j < l.length := by
        have := (List.getElem?_eq_some_iff.1 hx).1
        rw [bytesOf_len] at this; exact this
      rw [hcell j (by omega)]
      have h2 := bytesOf_get l j hj
      rw [List.getD_eq_getElem?_getD, hx] at h2
      simp only [Option.getD_some] at h2
      rw [h2]) hlt (by omega) (by omega) (by rw [show (⟨#[sep]⟩ : ByteArray).data.toList = [sep] from rfl, hj]; omega)
    rw [show (⟨#[sep]⟩ : ByteArray).data.toList = [sep] from rfl, hj, hb] at this
    exact this

def RowPost (w w' : World) (n : Nat) (l : List Str) (e : Ending) : Prop := ∃ ad c, e = .returned (.slice ad n c) ∧ w'.ownsRow w.heap.size 9 1 (.slice ad n c) n (strs l) ∧ n ≤ c ∧ Below w.heap.size w w'

theorem clone_any (w : World) (ad : Option Addr) (n c : Nat) (l : List Str) (hA : At w ad n l) (hn : n ≤ 100000) :
    Calls Tryz.prog 35 #[.slice ad n c] w fun e w' => RowPost w w' n l e := by
  have hl := hA.len
  by_cases h0 : n = 0
  · subst h0
    have : l = [] := List.length_eq_zero_iff.1 hl
    subst this
    cases ad with
    | none =>
      refine (Tryz.slices_Clone_string_nil 0 c w).mono ?_
      rintro e w' ⟨rfl, rfl⟩
      exact ⟨none, 0, rfl, World.ownsRow_nil _ _ _ _, Nat.le_refl _, Below.refl _ _⟩
    | some a =>
      refine (Tryz.slices_Clone_string_zero a c w).mono ?_
      rintro e w' ⟨v, rfl, ho, _, hb⟩
      rcases Joins.ownsRow_forms ho with ⟨rfl, _⟩ | ⟨g, cap, rfl⟩
      · exact ⟨none, 0, rfl, ho, Nat.le_refl _, hb⟩
      · exact ⟨_, cap, rfl, ho, Nat.zero_le _, hb⟩
  · obtain ⟨b, off, rfl, hlt, hcell⟩ := hA.cell (by omega)
    refine (Tryz.slices_Clone_string b off n c (bytesOf l) w (by rw [bytesOf_len, hl]; exact Nat.le_refl _) (by omega) (fun j hj => by rw [bytesOf_len, hl] at hj; rw [hcell j hj, bytesOf_get l j (by omega)])).mono ?_
    rintro e w' ⟨v, rfl, ho, _, hb⟩
    rw [show (bytesOf l).take n = bytesOf l by rw [← hl, ← bytesOf_len, List.take_length], bytesOf_val] at ho
    rcases Joins.ownsRow_forms ho with ⟨rfl, h⟩ | ⟨g, cap, rfl⟩
    · exact absurd h h0
    · refine ⟨_, cap, rfl, ho, ?_, hb⟩
      rcases ho.2 with ⟨h, _⟩ | ⟨g', cap', cur, h, _, _, h3, _⟩
      · simp at h
      · simp only [Value.slice.injEq] at h
        rw [h.2.2]
        exact h3

theorem joinOn_length (c : UInt8) (l : List Str) (h : ∀ x ∈ l, x.length ≤ 8) : (joinOn c l).length ≤ l.length * 9 := by
  induction l with
  | nil => simp [joinOn]
  | cons x r ih =>
    have h1 := h x (by simp)
    have h2 := ih (fun y hy => h y (by simp [hy]))
    by_cases hr : r = []
    · subst hr; simp [joinOn]; omega
    · rw [joinOn_cons c x r hr]; simp; omega

set_option maxHeartbeats 1000000 in
theorem realm_any (w : World) (ad : Option Addr) (n c : Nat) (l : List Str) (k : Nat) (hA : At w ad n l) (hk : k = 1 ∨ k = 2) (hn : n ≤ 4) (hw : ∀ x ∈ l, x.length ≤ 8) :
    Calls Tryz.prog 40 #[.slice ad n c, .int .i64 k] w fun e w' => e = .returned (.string ⟨(realmOf l k).toArray⟩) ∧ Below w.heap.size w w' := by
  have hC := clone_any w ad n c l hA (by omega)
  have hl := hA.len
  clear hA
  have hj1 := joinOn_length 47 l hw
  have hj2 := joinOn_length 46 l.reverse (fun x hx => hw x (by simpa using hx))
  simp only [List.length_reverse] at hj2
  by_cases h0 : n = 0
  · subst h0
    have hr : realmOf l k = [] := by rw [List.length_eq_zero_iff.1 hl]; rfl
    rw [hr]
    go_enter Tryz.func40, Tryz.ntmps40
    go_wp2_with (go_at_call 35; refine hC.mono ?_; rintro e w1 ⟨ad1, c1, rfl, ho1, hc1, hb1⟩)
    go_ret
    exact ⟨rfl, hb1⟩
  · have hne : l ≠ [] := fun e => h0 (by rw [← hl, e]; rfl)
    have hz : ((n : Int) == 0) = false := by simp; omega
    have hz2 : (n : Int) ≠ 0 := by omega
    rcases hk with rfl | rfl
    · have hr : realmOf l 1 = joinOn 46 l.reverse := by unfold realmOf; rw [if_neg hne, if_neg (by decide)]
      rw [hr]
      clear hr
      subst hl
      go_enter Tryz.func40, Tryz.ntmps40
      go_wp2_with (first
        | (go_at_call 35; refine hC.mono ?_; rintro e w1 ⟨ad1, c1, rfl, ho1, hc1, hb1⟩)
        | (go_at_call 56; refine (reverse_row _ w.heap.size _ _ _ ho1).mono ?_; rintro e w2 ⟨rfl, ho2, hb2⟩)
        | (go_at_call 59; refine (join_any _ _ _ _ l.reverse 46 (At.owns ho2) hc1 (by omega) (by omega)).mono ?_; rintro e w3 ⟨rfl, hb3⟩))
      go_ret
      have h2 := hb1.trans hb2
      exact ⟨rfl, h2.trans (hb3.mono h2.size)⟩
    · have hr : realmOf l 2 = 47 :: joinOn 47 l := by unfold realmOf; rw [if_neg hne, if_pos rfl]
      rw [hr]
      clear hr
      go_enter Tryz.func40, Tryz.ntmps40
      go_wp2_with (first
        | (go_at_call 35; refine hC.mono ?_; rintro e w1 ⟨ad1, c1, rfl, ho1, hc1, hb1⟩)
        | (go_at_call 59; refine (join_any _ _ _ _ l 47 (At.owns ho1) hc1 (by omega) (by omega)).mono ?_; rintro e w3 ⟨rfl, hb3⟩))
      go_ret
      exact ⟨rfl, hb1.trans (hb3.mono hb1.size)⟩
end Go.Proofs.YtcleonpckgfdhaaGreatDoor
