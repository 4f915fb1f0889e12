/-
  slices.DeleteFunc at name.Between's predicate.
-/
import Derived.Test.YtcleonpckgfdhaaGreatDoorSmall
import Derived.Test.YtcleonpckgfdhaaGreatDoorPath
set_option linter.unusedVariables false
set_option linter.unusedSimpArgs false
namespace Go.Proofs.YtcleonpckgfdhaaGreatDoor
open Go Go.RowKit Go.Lib Go.Shelf

theorem ends_any (W : World) (p q : Nat) (a b r : Str) (ha : W.cell? ⟨p, 0, none⟩ = some (.string ⟨a.toArray⟩)) (hb : W.cell? ⟨q, 0, none⟩ = some (.string ⟨b.toArray⟩)) :
    Calls Tryz.prog 42 #[.string ⟨r.toArray⟩, .pointer (some ⟨p, 0, none⟩), .pointer (some ⟨q, 0, none⟩)] W fun e w' => e = .returned (.bool (ends a b r)) ∧ ∃ n, w' = W.drewN n := by
  have e1 : ((⟨r.toArray⟩ : ByteArray).toList == (⟨a.toArray⟩ : ByteArray).toList) = (r == a) := by rw [toList_data, toList_data]
  have e2 : ((⟨r.toArray⟩ : ByteArray).toList == (⟨b.toArray⟩ : ByteArray).toList) = (r == b) := by rw [toList_data, toList_data]
  unfold ends
  cases h1 : (r == a) <;> cases h2 : (r == b) <;> (
    rw [h1] at e1
    rw [h2] at e2
    go_enter Tryz.func42, Tryz.ntmps42
    go_wp2)
  all_goals (go_ret; exact ⟨rfl, 0, rfl⟩)

set_option maxRecDepth 100000 in
theorem del_any (w : World) (base : Nat) (ad : Option Addr) (n c : Nat) (l : List Str) (p q : Nat) (a b : Str) (ho : w.ownsRow base 9 1 (.slice ad n c) n (strs l)) (ha : w.cell? ⟨p, 0, none⟩ = some (.string ⟨a.toArray⟩)) (hb : w.cell? ⟨q, 0, none⟩ = some (.string ⟨b.toArray⟩)) (hp : p < base) (hq : q < base) (hbase : base ≤ w.heap.size) :
    Calls Tryz.prog 41 #[.slice ad n c, .func (.func 42) #[] #[.pointer (some ⟨p, 0, none⟩), .pointer (some ⟨q, 0, none⟩)]] w fun e w' => e = .returned (.slice ad (others a b l).length c) ∧ w'.ownsRow base 9 1 (.slice ad (others a b l).length c) (others a b l).length (strs (others a b l)) ∧ Below base w w' := by
  have hl : l.length = n := (At.owns ho).len
  rcases Joins.ownsRow_forms ho with ⟨hv, h0⟩ | ⟨g, cap, hv⟩
  · simp only [Value.slice.injEq] at hv
    obtain ⟨rfl, rfl, rfl⟩ := hv
    have : l = [] := List.length_eq_zero_iff.1 hl
    subst this
    go_enter Tryz.func41, Tryz.ntmps41
    go_wp2_with (go_at_call 45; refine (Tryz.slices_IndexFunc_empty (α := Nat) none 0 _ _).mono ?_; rintro e w1 ⟨rfl, rfl⟩)
    go_ret
    exact ⟨rfl, World.ownsRow_nil _ _ _ _, Below.refl _ _⟩
  · simp only [Value.slice.injEq, true_and] at hv
    obtain ⟨rfl, rfl⟩ := hv
    obtain ⟨g', cap', e', hb', hlt', hcap, hmax, _, hH⟩ := holds_of_ownsRow (zs := l) ho (by simp)
    simp only [Value.slice.injEq, Option.some.injEq, Addr.mk.injEq, and_true, true_and] at e'
    obtain ⟨rfl, rfl⟩ := e'
    have eg : ∀ args w, (callFunc 42 args).run Tryz.prog w = .ok (.enter 42 args) w := enters_of Tryz.func42 (by kernel_rfl) rfl
    have hpa : PredAt Tryz.prog 42 #[.pointer (some ⟨p, 0, none⟩), .pointer (some ⟨q, 0, none⟩)] encStr (ends a b) w := fun W x hB =>
      ends_any W p q a b x ((hB.cell (p := ⟨p, 0, none⟩) (Nat.lt_of_lt_of_le hp hbase)).trans ha) ((hB.cell (p := ⟨q, 0, none⟩) (Nat.lt_of_lt_of_le hq hbase)).trans hb)
    have hpo : PredOver Tryz.prog 42 #[.pointer (some ⟨p, 0, none⟩), .pointer (some ⟨q, 0, none⟩)] encStr (ends a b) g 0 l.toArray.size w := fun m os dk x hs => by
      have hcell : ∀ k, k < base → (sortWorld encStr w g 0 m dk os).cell? ⟨k, 0, none⟩ = w.cell? ⟨k, 0, none⟩ := fun k hk => by
        have h1 : (sortWorld encStr w g 0 m dk os).cell? ⟨k, 0, none⟩ = (Sort.putRow encStr (Sort.ahead w m) g 0 dk).cell? ⟨k, 0, none⟩ :=
          World.cell?_of_block (Sort.heap_grow_old _ _ (by simp [Sort.putRow, Sort.mapBlock, Sort.ahead]; omega))
        exact h1.trans (Sort.cell?_putRow_other encStr (Sort.ahead w m) g 0 dk ⟨k, 0, none⟩ (.inl (by simp; omega)))
      exact ends_any _ p q a b x ((hcell p hp).trans ha) ((hcell q hq).trans hb)
    have h := Tryz.slices_DeleteFunc encStr (fun _ => rfl) (ends a b) 42 #[.pointer (some ⟨p, 0, none⟩), .pointer (some ⟨q, 0, none⟩)] eg [] (fun w => by kernel_rfl) g 0 c l.toArray w hpa hpo hH (by simp; unfold maxLen at hmax; omega) (by simp; omega)
    rw [show l.toArray.size = n by simp [hl]] at h
    refine h.mono ?_
    rintro e w' ⟨rfl, r, rfl⟩
    have hfl : (l.filter fun x => !ends a b x).length ≤ n := by rw [← hl]; exact List.length_filter_le _ _
    refine ⟨rfl, ?_, below_putRow (Below.refl _ _) hb'⟩
    have := ownsRow_putRow (q := r) (k := (others a b l).length) (ys := (l.filter fun x => !ends a b x) ++ List.replicate (n - (l.filter fun x => !ends a b x).length) []) ho (by simp; omega) hfl
    have ht : ((l.filter fun x => !ends a b x) ++ List.replicate (n - (l.filter fun x => !ends a b x).length) ([] : Str)).take (others a b l).length = others a b l := List.take_left' rfl
    rw [ht] at this
    exact this
end Go.Proofs.YtcleonpckgfdhaaGreatDoor
