/-
  name.Kind, Is, Up, Under, Krbtgt, Target, IsPrinc.
-/
import Derived.Test.YtjbdegcmolimoaaDoorRealm
set_option linter.unusedVariables false
set_option linter.unusedSimpArgs false
namespace Go.Proofs.YtjbdegcmolimoaaDoor
open Go Go.RowKit Go.Lib Go.Shelf

def krb : Str := [107, 114, 98, 116, 103, 116, 47]
def targetOf (n : Str) : Str × Bool := if Lib.hasPrefix n krb = true ∧ isR (n.drop 7) = true then (n.drop 7, true) else ([], false)
def princOf (r n : Str) : Bool := isR r && ((targetOf n).2 || word smB n)

theorem kind_any (w : World) (s : ByteArray) (hg : Glob w) (hs : s.size < 90000) :
    Calls Tryd.prog 42 #[.string s] w fun e w' => e = .returned (.int .i64 (kindOf s.data.toList)) ∧ Below w.heap.size w w' := by
  have hL := labels_any w s hg hs
  go_enter Tryd.func42, Tryd.ntmps42
  go_wp2_with (go_at_call 55; refine hL.mono ?_; rintro e w1 ⟨ad, c, rfl, hA, hc, hb⟩)
  go_ret
  exact ⟨rfl, hb⟩

theorem is_any (w : World) (s : ByteArray) (hg : Glob w) (hs : s.size < 90000) :
    Calls Tryd.prog 28 #[.string s] w fun e w' => e = .returned (.bool (isR s.data.toList)) ∧ Below w.heap.size w w' := by
  have hK := kind_any w s hg hs
  have hr : ((kindOf s.data.toList : Int) != 0) = isR s.data.toList := by
    unfold isR
    rcases kindOf_le s.data.toList with h | h | h <;> rw [h] <;> rfl
  go_enter Tryd.func28, Tryd.ntmps28
  go_wp2_with (go_at_call 42; refine hK.mono ?_; rintro e w1 ⟨rfl, hb⟩)
  go_ret
  exact ⟨by first | rfl | (rw [← hr]; rfl), hb⟩

theorem allEq_bytes : ∀ l m : List Str, Lib.allEq (fun x y : ByteArray => x.toList == y.toList) (bytesOf l) (bytesOf m) = decide (l = m)
  | [], [] => rfl
  | [], _ :: _ => rfl
  | _ :: _, [] => rfl
  | x :: l, y :: m => by
    have ih := allEq_bytes l m
    show (((⟨x.toArray⟩ : ByteArray).toList == (⟨y.toArray⟩ : ByteArray).toList) && Lib.allEq _ (bytesOf l) (bytesOf m)) = _
    rw [ih, ByteArray.toList_eq, ByteArray.toList_eq]
    rw [Bool.eq_iff_iff]
    simp

theorem equal_any (w : World) (ad ad2 : Option Addr) (n c m d : Nat) (l k : List Str) (hA : At w ad n l) (hB : At w ad2 m k) (hn : 0 < n) (hm : 0 < m) (hn2 : n ≤ 100) (hm2 : m ≤ 100) :
    Calls Tryd.prog 64 #[.slice ad n c, .slice ad2 m d] w fun e w' => e = .returned (.bool (decide (l = k))) ∧ Below w.heap.size w w' := by
  obtain ⟨b, off, rfl, hlt, hcell⟩ := hA.cell hn
  obtain ⟨b2, off2, rfl, hlt2, hcell2⟩ := hB.cell hm
  have hl := hA.len
  have hk := hB.len
  have e1 : (bytesOf l).take n = bytesOf l := by rw [← hl, ← bytesOf_len, List.take_length]
  have e2 : (bytesOf k).take m = bytesOf k := by rw [← hk, ← bytesOf_len, List.take_length]
  have get : ∀ (l : List Str) (j : Nat), j < l.length → (bytesOf l)[j]! = ⟨l[j]!.toArray⟩ := fun l j hj => by
    rw [getElem!_pos _ j (by rw [bytesOf_len]; exact hj), getElem!_pos l j hj]
    simp [bytesOf]
  refine (Tryd.slices_Equal Value.string _ (NeqAt.string Tryd.prog 9) b off n c b2 off2 m d (bytesOf l) (bytesOf k) w (by rw [bytesOf_len, hl]; exact Nat.le_refl _) (by rw [bytesOf_len, hk]; exact Nat.le_refl _) (by omega) (by omega)
    (fun j hj => by rw [bytesOf_len, hl] at hj; rw [hcell j hj, get l j (by omega)]) (fun j hj => by rw [bytesOf_len, hk] at hj; rw [hcell2 j hj, get k j (by omega)])).mono ?_
  rintro e w' ⟨rfl, q, rfl⟩
  rw [e1, e2, allEq_bytes]
  exact ⟨rfl, below_drewN (Below.refl _ _) _⟩

theorem under_any (w : World) (a b : ByteArray) (hg : Glob w) (ha : a.size < 90000) (hb : b.size < 90000) :
    Calls Tryd.prog 48 #[.string a, .string b] w fun e w' => e = .returned (.bool (underOf a.data.toList b.data.toList)) ∧ Below w.heap.size w w' := by
  have hL := labels_any w a hg ha
  have hL2 := fun w hg => labels_any w b hg hb
  have HG := Lib.hid hg
  have hr : underOf a.data.toList b.data.toList = (decide ((labelsOf a.data.toList).2 ≠ 0) && (decide ((labelsOf a.data.toList).2 = (labelsOf b.data.toList).2) && (decide ((labelsOf b.data.toList).1.length < (labelsOf a.data.toList).1.length) && decide ((labelsOf a.data.toList).1.take (labelsOf b.data.toList).1.length = (labelsOf b.data.toList).1)))) := rfl
  have hne : (labelsOf b.data.toList).2 ≠ 0 → 0 < (labelsOf b.data.toList).1.length := fun h => List.length_pos_iff.2 (good_of_kind h).1.ne
  have hf1 := labels_len a.data.toList
  have hf2 := labels_len b.data.toList
  rw [hr]
  clear hr hg
  unfold LabPost at hL hL2
  generalize (labelsOf a.data.toList).1 = L at *
  generalize (labelsOf a.data.toList).2 = K at *
  generalize (labelsOf b.data.toList).1 = M at *
  generalize (labelsOf b.data.toList).2 = J at *
  by_cases h1 : K = 0
  · subst h1
    go_enter Tryd.func48, Tryd.ntmps48
    go_wp2_with (first
      | (go_at_call 55; refine hL.mono ?_; rintro e w1 ⟨ad, c, rfl, hA, hc, hb1⟩; clear hL)
      | (go_at_call 55; refine (hL2 _ (HG.out.below hb1)).mono ?_; rintro e w2 ⟨ad2, c2, rfl, hA2, hc2, hb2⟩))
    go_ret
    exact ⟨rfl, hb1.trans (hb2.mono hb1.size)⟩
  · have hz1 : (K : Int) ≠ 0 := by omega
    have hz1b : ((K : Int) != 0) = true := by simpa using h1
    by_cases h2 : K = J
    · subst h2
      by_cases h3 : M.length < L.length
      · have hz3 : (M.length : Int) < (L.length : Int) := by omega
        have hM := hne h1
        have hd : (decide (K ≠ 0) && (decide (K = K) && (decide (M.length < L.length) && decide (L.take M.length = M)))) = decide (L.take M.length = M) := by simp [h1, h3]
        rw [hd]
        clear hd hne
        go_enter Tryd.func48, Tryd.ntmps48
        go_wp2_with (first
          | (go_at_call 55; refine hL.mono ?_; rintro e w1 ⟨ad, c, rfl, hA, hc, hb1⟩; clear hL)
          | (go_at_call 55; refine (hL2 _ (HG.out.below hb1)).mono ?_; rintro e w2 ⟨ad2, c2, rfl, hA2, hc2, hb2⟩)
          | (go_at_call 64; refine (equal_any _ _ _ _ _ _ _ _ _ ((hA.below hb2).take (by omega)) hA2 (by omega) (by omega) (by omega) (by omega)).mono ?_; rintro e w3 ⟨rfl, hb3⟩))
        go_ret
        have h12 := hb1.trans (hb2.mono hb1.size)
        exact ⟨rfl, h12.trans (hb3.mono h12.size)⟩
      · have hz3 : ¬ (M.length : Int) < (L.length : Int) := by omega
        have hd : (decide (K ≠ 0) && (decide (K = K) && (decide (M.length < L.length) && decide (L.take M.length = M)))) = false := by simp [h3]
        rw [hd]
        go_enter Tryd.func48, Tryd.ntmps48
        go_wp2_with (first
          | (go_at_call 55; refine hL.mono ?_; rintro e w1 ⟨ad, c, rfl, hA, hc, hb1⟩; clear hL)
          | (go_at_call 55; refine (hL2 _ (HG.out.below hb1)).mono ?_; rintro e w2 ⟨ad2, c2, rfl, hA2, hc2, hb2⟩))
        go_ret
        exact ⟨rfl, hb1.trans (hb2.mono hb1.size)⟩
    · have hz2 : (K : Int) ≠ (J : Int) := by omega
      have hd : (decide (K ≠ 0) && (decide (K = J) && (decide (M.length < L.length) && decide (L.take M.length = M)))) = false := by simp [h2]
      rw [hd]
      go_enter Tryd.func48, Tryd.ntmps48
      go_wp2_with (first
        | (go_at_call 55; refine hL.mono ?_; rintro e w1 ⟨ad, c, rfl, hA, hc, hb1⟩; clear hL)
        | (go_at_call 55; refine (hL2 _ (HG.out.below hb1)).mono ?_; rintro e w2 ⟨ad2, c2, rfl, hA2, hc2, hb2⟩))
      go_ret
      exact ⟨rfl, hb1.trans (hb2.mono hb1.size)⟩

theorem cat_eq (a b : ByteArray) : a ++ b = ⟨(a.data.toList ++ b.data.toList).toArray⟩ := by
  apply ByteArray.ext
  rw [ByteArray.data_append]
  apply Array.ext'
  simp

theorem sm_set : ∀ b : UInt8, (⟨#[97, 98, 99, 100, 101, 102, 103, 104, 105, 106, 107, 108, 109, 110, 111, 112, 113, 114, 115, 116, 117, 118, 119, 120, 121, 122, 48, 49, 50, 51, 52, 53, 54, 55, 56, 57]⟩ : ByteArray).data.toList.contains b = smB b := byte_all (by decide +kernel)

end Go.Proofs.YtjbdegcmolimoaaDoor
