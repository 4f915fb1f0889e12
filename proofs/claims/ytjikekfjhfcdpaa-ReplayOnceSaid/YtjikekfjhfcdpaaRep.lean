/-
  replay.New, Len, Restart, and the laws' 'known': what each answers and leaves.
-/
import Derived.Test.YtjikekfjhfcdpaaSee3
import Derived.Lib.Hide
set_option linter.unusedVariables false
set_option linter.unusedSimpArgs false
namespace Go.Proofs.Ytjikekfjhfcdpaa
open Go Go.RowKit Go.Lib Go.Shelf

theorem new_any (now : Int) (w : World) :
    Calls Try.prog 10 #[.int .i64 now] w fun e w' => e = .returned (.pointer (some ⟨w.heap.size, 0, none⟩)) ∧ w' = w.alloc (.cells #[.slice none 0 0, .bool (now != 0), .int .i64 now] 50) := by
  go_enter Try.func10, Try.ntmps10
  go_wp2
  go_ret
  exact ⟨rfl, rfl⟩

theorem rep_new (now : Int) (w : World) (base : Nat) (hb : base ≤ w.heap.size) : SeePost w (w.alloc (.cells #[.slice none 0 0, .bool (now != 0), .int .i64 now] 50)) base w.heap.size [] (now != 0) now :=
  ⟨⟨hb, none, 0, heap_alloc_new w _, World.ownsRow_nil _ _ _ _⟩, (Below.refl _ _).alloc hb _⟩

theorem len_any (w : World) (base B : Nat) (l : List Au) (on : Bool) (since : Int) (hR : Rep w base B l on since) :
    Calls Try.prog 12 #[.pointer (some ⟨B, 0, none⟩)] w fun e w' => e = .returned (.int .i64 l.length) ∧ w = w' := by
  obtain ⟨_, ad, cap, hO, _⟩ := hR
  have b0 := hO.c0
  clear hO
  go_enter Try.func12, Try.ntmps12
  go_wp2
  go_ret
  exact ⟨rfl, rfl⟩

theorem len_nil (w : World) : Calls Try.prog 12 #[.pointer none] w fun e w' => e = .returned (.int .i64 0) ∧ w = w' := by
  go_enter Try.func12, Try.ntmps12
  go_wp2
  go_ret
  exact ⟨rfl, rfl⟩

theorem restart_any (w : World) (base B : Nat) (l : List Au) (on : Bool) (since now : Int) (hR : Rep w base B l on since) (hbase : base ≤ w.heap.size) :
    Calls Try.prog 16 #[.pointer (some ⟨B, 0, none⟩), .int .i64 now] w fun e w' => e = .returned (.tuple #[]) ∧ SeePost w w' base B [] true now := by
  obtain ⟨hb, ad, cap, hO, _⟩ := hR
  have b0 := hO.c0
  have b1 := hO.c1
  have b2 := hO.c2
  have f0 := hO.f 0
  have f1 := hO.f 1
  have f2 := hO.f 2
  have HO : Aside _ := hO
  clear hO
  go_enter Try.func16, Try.ntmps16
  go_wp2
  go_end0
  refine ⟨rfl, ⟨hb, none, 0, ?_, World.ownsRow_nil _ _ _ _⟩, ?_⟩
  · have h := HO.out
    have h1 := heap_setCell_same w B 0 _ 50 (.slice none 0 0) h
    have h2 := heap_setCell_same _ B 1 _ 50 (.bool true) h1
    exact heap_setCell_same _ B 2 _ 50 (.int .i64 now) h2
  · exact (((Below.refl base w).setCell (p := ⟨B, 0, none⟩) hb _).setCell (p := ⟨B, 1, none⟩) hb _).setCell (p := ⟨B, 2, none⟩) hb _

theorem restart_nil (w : World) (now : Int) : Calls Try.prog 16 #[.pointer none, .int .i64 now] w fun e w' => e = .returned (.tuple #[]) ∧ w = w' := by
  go_enter Try.func16, Try.ntmps16
  go_wp2
  go_end0
  exact ⟨rfl, rfl⟩

theorem see_nil (w : World) (a : Au) (now : Int) : Calls Try.prog 11 #[.pointer none, .agg #[.string a.realm, .string a.name, .int .i64 a.time, .int .i64 a.seq], .int .i64 now] w fun e w' => e = .returned (.int .i64 13) ∧ Below w.heap.size w w' := by
  go_enter Try.func11, Try.ntmps11
  go_wp2
  go_ret
  exact ⟨rfl, ((Below.refl _ w).alloc (Nat.le_refl _) _).alloc (by simp) _⟩

theorem bytes_inj {a b : ByteArray} (h : a.toList = b.toList) : a = b := by
  rw [ByteArray.toList_eq, ByteArray.toList_eq] at h
  obtain ⟨⟨x⟩⟩ := a
  obtain ⟨⟨y⟩⟩ := b
  simp at h
  rw [h]

theorem same_iff (a b : Au) : same a b = true ↔ a = b := by
  constructor
  · intro h
    simp only [same, Bool.and_eq_true, beq_iff_eq] at h
    obtain ⟨h1, h2, h3, h4⟩ := h
    obtain ⟨r, n, t, s⟩ := a
    obtain ⟨r', n', t', s'⟩ := b
    simp only at h1 h2 h3 h4
    rw [bytes_inj h1, bytes_inj h2, h3, h4]
  · rintro rfl
    simp [same]

theorem same_self (a : Au) : same a a = true := (same_iff a a).2 rfl

/-- The authenticators of 'known'. -/
def nobody (t q : Int) : Au := ⟨⟨#[]⟩, ⟨#[]⟩, t, q⟩

theorem rep_post_trans {w w1 w2 : World} {base B : Nat} {l : List Au} {on : Bool} {since : Int} (h : Below base w w1) (k : SeePost w1 w2 base B l on since) : SeePost w w2 base B l on since := ⟨k.1, h.trans k.2⟩

theorem known_any (w : World) : Calls Try.prog 13 #[] w fun e w' => e = .returned (.bool true) ∧ Below w.heap.size w w' := by
  have s1 : seeAns [] false 0 (nobody 5 1) 5 = 0 := by simp [seeAns, skewed, nobody]
  have l1 : seeList [] false 0 (nobody 5 1) 5 = [nobody 5 1] := by simp [seeList, skewed, nobody]
  have s2 : seeAns [nobody 5 1] false 0 (nobody 5 1) 6 = 12 := by simp [seeAns, skewed, nobody, keep, same_self]
  have l2 : seeList [nobody 5 1] false 0 (nobody 5 1) 6 = [nobody 5 1] := by simp [seeList, skewed, nobody, keep, same_self]
  have s3 : seeAns [nobody 5 1] false 0 (nobody 5 2) 6 = 0 := by simp [seeAns, skewed, nobody, keep, same]
  have l3 : seeList [nobody 5 1] false 0 (nobody 5 2) 6 = [nobody 5 1, nobody 5 2] := by simp [seeList, skewed, nobody, keep, same]
  have S1 := Lib.hid s1; have L1 := Lib.hid l1; have S2 := Lib.hid s2; have L2 := Lib.hid l2; have S3 := Lib.hid s3; have L3 := Lib.hid l3
  clear s1 l1 s2 l2 s3 l3
  go_enter Try.func13, Try.ntmps13
  go_wp2_with fail
  refine (new_any _ _).mono ?_
  rintro e w1 ⟨rfl, hw1⟩
  obtain ⟨hR1, hB1⟩ : SeePost w w1 w.heap.size w.heap.size [] false 0 := by rw [hw1]; exact rep_new 0 w w.heap.size (Nat.le_refl _)
  clear hw1
  go_wp2_with fail
  refine (see_any _ w.heap.size w.heap.size [] false 0 (nobody 5 1) 5 hR1 hB1.size (by simp) (by omega) (by omega)).mono ?_
  rintro e w2 ⟨rfl, hp2⟩
  rw [S1.out]
  obtain ⟨hR2, hB2⟩ := hp2
  rw [L1.out] at hR2
  have hB2' := hB1.trans hB2
  clear hB1 hB2 hR1
  go_wp2_with fail
  refine (see_any _ w.heap.size w.heap.size [nobody 5 1] false 0 (nobody 5 1) 6 hR2 hB2'.size (by simp) (by omega) (by omega)).mono ?_
  rintro e w3 ⟨rfl, hp3⟩
  rw [S2.out]
  obtain ⟨hR3, hB3⟩ := hp3
  rw [L2.out] at hR3
  have hB3' := hB2'.trans hB3
  clear hB2' hB3 hR2
  go_wp2_with fail
  refine (see_any _ w.heap.size w.heap.size [nobody 5 1] false 0 (nobody 5 2) 6 hR3 hB3'.size (by simp) (by omega) (by omega)).mono ?_
  rintro e w4 ⟨rfl, hp4⟩
  rw [S3.out]
  obtain ⟨hR4, hB4⟩ := hp4
  rw [L3.out] at hR4
  have hB4' := hB3'.trans hB4
  clear hB3' hB4 hR3
  go_wp2_with (go_at_call 12; refine (len_any _ _ _ _ _ _ hR4).mono ?_; rintro e w' ⟨rfl, rfl⟩)
  go_ret
  exact ⟨rfl, hB4'⟩

end Go.Proofs.Ytjikekfjhfcdpaa
