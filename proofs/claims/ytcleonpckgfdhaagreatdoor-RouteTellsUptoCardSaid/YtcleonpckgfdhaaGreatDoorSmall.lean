/-
  name.Kind, Is, Up, Under, Krbtgt, Target, IsPrinc.
-/
import Derived.Test.YtcleonpckgfdhaaGreatDoorRealm
set_option linter.unusedVariables false
set_option linter.unusedSimpArgs false
namespace Go.Proofs.YtcleonpckgfdhaaGreatDoor
open Go Go.RowKit Go.Lib Go.Shelf

def krb : Str := [107, 114, 98, 116, 103, 116, 47]
def targetOf (n : Str) : Str × Bool := if Lib.hasPrefix n krb = true ∧ isR (n.drop 7) = true then (n.drop 7, true) else ([], false)
def princOf (r n : Str) : Bool := isR r && ((targetOf n).2 || word smB n)

theorem kind_any (w : World) (s : ByteArray) (hg : Glob w) (hs : s.size < 90000) :
    Calls Tryz.prog 62 #[.string s] w fun e w' => e = .returned (.int .i64 (kindOf s.data.toList)) ∧ Below w.heap.size w w' := by
  have hL := labels_any w s hg hs
  go_enter Tryz.func62, Tryz.ntmps62
  go_wp2_with (go_at_call 39; refine hL.mono ?_; rintro e w1 ⟨ad, c, rfl, hA, hc, hb⟩)
  go_ret
  exact ⟨rfl, hb⟩

theorem is_any (w : World) (s : ByteArray) (hg : Glob w) (hs : s.size < 90000) :
    Calls Tryz.prog 52 #[.string s] w fun e w' => e = .returned (.bool (isR s.data.toList)) ∧ Below w.heap.size w w' := by
  have hK := kind_any w s hg hs
  have hr : ((kindOf s.data.toList : Int) != 0) = isR s.data.toList := by
    unfold isR
    rcases kindOf_le s.data.toList with h | h | h <;> rw [h] <;> rfl
  go_enter Tryz.func52, Tryz.ntmps52
  go_wp2_with (go_at_call 62; refine hK.mono ?_; rintro e w1 ⟨rfl, hb⟩)
  go_ret
  exact ⟨by first | rfl | (rw [← hr]; rfl), hb⟩

theorem allEq_bytes : ∀ l m : List Str, Lib.allEq (fun x y : ByteArray => x.toList == y.toList) (bytesOf l) (bytesOf m) = decide (l = m)
  | [], [] => rfl
  | [], _ :: _ => rfl
  | _ :: _, [] => rfl
  | x :: l, y :: m => by
    have ih := allEq_bytes l m
    show (((⟨x.toArray⟩ : ByteArray).toList == (⟨y.toArray⟩ : ByteArray).toList) && Lib.allEq _ (bytesOf l) (bytesOf m)) = _
    rw [ih, ByteArray.toList_eq, ByteArray.toList_eq]
    rw [Bool.eq_iff_iff]
    simp

theorem cat_eq (a b : ByteArray) : a ++ b = ⟨(a.data.toList ++ b.data.toList).toArray⟩ := by
  apply ByteArray.ext
  rw [ByteArray.data_append]
  apply Array.ext'
  simp

theorem sm_set : ∀ b : UInt8, (⟨#[97, 98, 99, 100, 101, 102, 103, 104, 105, 106, 107, 108, 109, 110, 111, 112, 113, 114, 115, 116, 117, 118, 119, 120, 121, 122, 48, 49, 50, 51, 52, 53, 54, 55, 56, 57]⟩ : ByteArray).data.toList.contains b = smB b := byte_all (by decide +kernel)

end Go.Proofs.YtcleonpckgfdhaaGreatDoor
