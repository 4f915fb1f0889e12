/-
  replay.See: the walks.
-/
import Derived.Test.YtjikekfjhfcdpaaSee
import Derived.Deep.AppendLies
import Derived.Deep.RegionLaw
import Derived.WalkSmall
set_option linter.unusedVariables false
set_option linter.unusedSimpArgs false
namespace Go.Proofs.Ytjikekfjhfcdpaa
open Go Go.RowKit Go.Lib Go.Shelf

/-- May the authenticator not be looked at: clocks too far apart, or what might have been seen ahead of the begin? -/
def skewed (on : Bool) (since : Int) (a : Au) (now : Int) : Bool := decide (now + 5 < a.time) || (decide (a.time < now - 5) || (on && decide (a.time ≤ since + 5)))

/-- What a Replay's block holds. -/
def Obj3 (w : World) (B : Nat) (v : Value) (on : Bool) (since : Int) : Prop := w.heap[B]? = some (.cells #[v, .bool on, .int .i64 since] 50 (0, 0))

theorem Obj3.lt {w : World} {B : Nat} {v : Value} {on : Bool} {since : Int} (h : Obj3 w B v on since) : B < w.heap.size := lt_of_block h
theorem Obj3.c0 {w : World} {B : Nat} {v : Value} {on : Bool} {since : Int} (h : Obj3 w B v on since) : w.cell? ⟨B, 0, none⟩ = some v := by unfold Obj3 at h; simp [World.cell?, h]
theorem Obj3.c1 {w : World} {B : Nat} {v : Value} {on : Bool} {since : Int} (h : Obj3 w B v on since) : w.cell? ⟨B, 1, none⟩ = some (.bool on) := by unfold Obj3 at h; simp [World.cell?, h]
theorem Obj3.c2 {w : World} {B : Nat} {v : Value} {on : Bool} {since : Int} (h : Obj3 w B v on since) : w.cell? ⟨B, 2, none⟩ = some (.int .i64 since) := by unfold Obj3 at h; simp [World.cell?, h]
theorem Obj3.f {w : World} {B : Nat} {v : Value} {on : Bool} {since : Int} (h : Obj3 w B v on since) (j : Nat) : w.frozen? ⟨B, j, none⟩ = false := by unfold Obj3 at h; simp [World.frozen?, h]
theorem Obj3.block {w w' : World} {B : Nat} {v : Value} {on : Bool} {since : Int} (h : Obj3 w B v on since) (e : w'.heap[B]? = w.heap[B]?) : Obj3 w' B v on since := by unfold Obj3 at h ⊢; rw [e]; exact h
theorem Obj3.put {w : World} {B : Nat} {v : Value} {on : Bool} {since : Int} (h : Obj3 w B v on since) (u : Value) : Obj3 (w.setCell ⟨B, 0, none⟩ u) B u on since := by
  unfold Obj3 at h ⊢
  rw [heap_setCell_same w B 0 _ 50 u h]; rfl

set_option maxHeartbeats 1000000 in
theorem see_skew (w : World) (B : Nat) (v : Value) (on : Bool) (since : Int) (a : Au) (now : Int) (hO : Obj3 w B v on since)
    (ha : -4611686018427387904 ≤ now ∧ now ≤ 4611686018427387904) (hs : -4611686018427387904 ≤ since ∧ since ≤ 4611686018427387904) (hk : skewed on since a now = true) :
    Calls Try.prog 11 #[.pointer (some ⟨B, 0, none⟩), .agg #[.string a.realm, .string a.name, .int .i64 a.time, .int .i64 a.seq], .int .i64 now] w fun e w' => e = .returned (.int .i64 8) ∧ Below w.heap.size w w' := by
  have b0 := hO.c0; have b1 := hO.c1; have b2 := hO.c2
  have hB := hO.lt
  obtain ⟨a1, a2⟩ := ha
  obtain ⟨s1, s2⟩ := hs
  unfold skewed at hk
  by_cases h1 : now + 5 < a.time
  · have h1' : decide (now + 5 < a.time) = true := by simpa using h1
    clear hk
    go_enter Try.func11, Try.ntmps11
    go_wp2
    go_quiet (fail)
    go_wp2
    go_ret
    exact ⟨rfl, below_drewN (((Below.refl _ w).alloc (Nat.le_refl _) _).alloc (by simp) _) _⟩
  · have h1' : decide (now + 5 < a.time) = false := by simpa using h1
    rw [h1', Bool.false_or] at hk
    by_cases h2 : a.time < now - 5
    · have h2' : decide (a.time < now - 5) = true := by simpa using h2
      clear hk
      go_enter Try.func11, Try.ntmps11
      go_wp2
      go_quiet (fail)
      go_wp2
      go_ret
      exact ⟨rfl, below_drewN (((Below.refl _ w).alloc (Nat.le_refl _) _).alloc (by simp) _) _⟩
    · have h2' : decide (a.time < now - 5) = false := by simpa using h2
      rw [h2', Bool.false_or] at hk
      obtain ⟨rfl, h3⟩ : on = true ∧ decide (a.time ≤ since + 5) = true := by simpa using hk
      clear hk
      go_enter Try.func11, Try.ntmps11
      go_wp2
      go_quiet (fail)
      go_wp2
      go_ret
      exact ⟨rfl, below_drewN (((Below.refl _ w).alloc (Nat.le_refl _) _).alloc (by simp) _) _⟩

end Go.Proofs.Ytjikekfjhfcdpaa
