/-
  route.isTwice at texts and at links.
-/
import Derived.Test.YtcleonpckgfdhaaGreatDoorRtWalk
set_option linter.unusedVariables false
set_option linter.unusedSimpArgs false
set_option maxRecDepth 100000
namespace Go.Proofs.YtcleonpckgfdhaaGreatDoor
open Go Go.RowKit Go.Lib Go.Shelf

theorem nodup_at {α : Type} [Inhabited α] (l : List α) : l.Nodup ↔ ∀ i, i < l.length → l[i]! ∉ l.take i := by
  constructor
  · intro h i hi hm
    obtain ⟨j, hj, e⟩ := List.getElem_of_mem hm
    simp only [List.length_take] at hj
    rw [List.getElem_take, getElem!_pos l i hi] at e
    have := (List.pairwise_iff_getElem.1 (List.nodup_iff_pairwise_ne.1 h)) j i (by omega) hi (by omega)
    exact this e
  · intro h
    rw [List.nodup_iff_pairwise_ne, List.pairwise_iff_getElem]
    intro i j hi hj hij e
    refine h j hj ?_
    rw [getElem!_pos l j hj, ← e]
    exact List.mem_take_iff_getElem.2 ⟨i, by omega, rfl⟩

theorem LinksAt.take {w : World} {ad : Option Addr} {n : Nat} {L : List Link} (h : LinksAt w ad n L) {m : Nat} (hm : m ≤ n) : LinksAt w ad m (L.take m) := by
  refine ⟨by simp [h.len]; omega, fun h0 => ?_⟩
  obtain ⟨b, off, e, hlt, hc⟩ := h.cell (by omega)
  refine ⟨b, off, e, hlt, fun j hj => ?_⟩
  have := hc j (by omega)
  rw [getElem!_pos L j (by rw [h.len]; omega)] at this
  rw [getElem!_pos (L.take m) j (by simp [h.len]; omega), List.getElem_take]
  exact this

set_option maxHeartbeats 1000000 in
theorem isTwiceS_any (w : World) (ad : Option Addr) (n c : Nat) (l : List Str) (hA : At w ad n l) (hnc : n ≤ c) (hn : n ≤ 100000) :
    Calls Tryz.prog 46 #[.slice ad n c] w fun e w' => e = .returned (.bool (!decide l.Nodup)) ∧ Below w.heap.size w w' := by
  have HA := Lib.hid hA
  obtain ⟨R, hR⟩ : ∃ R, R = !decide l.Nodup := ⟨_, rfl⟩
  rw [← hR]
  have HR := Lib.hid hR
  clear hA hR
  go_enter Tryz.func46, Tryz.ntmps46
  go_wp2
  go_loopg [7] n (fun gg s7 wr => ∃ k : Nat, k ≤ n ∧ n - k ≤ gg ∧ s7 = .int .i64 k ∧ Aside (∀ j, j < k → l[j]! ∉ l.take j) ∧ Aside (Below w.heap.size w wr))
  case atStart => exact ⟨0, by omega, by omega, rfl, fun j hj => absurd hj (Nat.not_lt_zero _), Below.refl _ _⟩
  case round =>
    obtain ⟨k, hk, hgg, rfl, HK, HB⟩ := hrel
    by_cases hlt : k < n
    · have hltz : (k : Int) < (n : Int) := by omega
      have hkc : (k : Int) ≤ (c : Int) := by omega
      obtain ⟨b, off, hb, hbl, hc⟩ := HA.out.cell (by omega)
      obtain ⟨y, hy⟩ : ∃ y, y = l[k]! := ⟨_, rfl⟩
      have c0 := (HB.out.cell (p := ⟨b, off + k, none⟩) hbl).trans (hc k hlt)
      rw [← hy] at c0
      have hA2 : At wr ad k (l.take k) := (HA.out.below HB.out).take (by omega)
      have hC := contains_any wr ad k c (l.take k) y hA2 (by omega)
      have HY := Lib.hid hy
      subst hb
      clear hc hy hA2
      by_cases hin : y ∈ l.take k
      · rw [decide_eq_true hin] at hC
        have hr : R = true := by
          rw [HR.out, Bool.not_eq_true', decide_eq_false_iff_not, nodup_at]
          intro h
          exact h k (by rw [HA.out.len]; exact hlt) (by rw [← HY.out]; exact hin)
        subst hr
        clear hin
        go_wp2_with (go_at_call 25; refine hC.mono ?_; rintro e w2 ⟨rfl, h2⟩; replace h2 := h2.symm; subst h2)
        go_ret
        exact ⟨rfl, HB.out⟩
      · rw [decide_eq_false hin] at hC
        have HIN := Lib.hid hin
        clear hin
        go_wp2_with (go_at_call 25; refine hC.mono ?_; rintro e w2 ⟨rfl, h2⟩; replace h2 := h2.symm; subst h2)
        go_roundg (n - (k + 1))
        case measure => omega
        case rel =>
          refine ⟨k + 1, by omega, by omega, by go_num, fun j hj => ?_, HB.out⟩
          by_cases e : j = k
          · subst e; rw [← HY.out]; exact HIN.out
          · exact HK.out j (by omega)
    · have hk : k = n := by omega
      subst hk
      have hr : R = false := by
        rw [HR.out, Bool.not_eq_false', decide_eq_true_iff, nodup_at]
        intro i hi
        exact HK.out i (by rw [← HA.out.len]; exact hi)
      subst hr
      go_wp2
      go_ret
      exact ⟨rfl, HB.out⟩

set_option maxHeartbeats 1000000 in
theorem isTwiceL_any (w : World) (ad : Option Addr) (n c : Nat) (l : List Link) (hA : LinksAt w ad n l) (hnc : n ≤ c) (hn : n ≤ 4611686018427387904) :
    Calls Tryz.prog 47 #[.slice ad n c] w fun e w' => e = .returned (.bool (!decide l.Nodup)) ∧ Below w.heap.size w w' := by
  have HA := Lib.hid hA
  obtain ⟨R, hR⟩ : ∃ R, R = !decide l.Nodup := ⟨_, rfl⟩
  rw [← hR]
  have HR := Lib.hid hR
  clear hA hR
  go_enter Tryz.func47, Tryz.ntmps47
  go_wp2
  go_loopg [7] n (fun gg s7 wr => ∃ k : Nat, k ≤ n ∧ n - k ≤ gg ∧ s7 = .int .i64 k ∧ Aside (∀ j, j < k → l[j]! ∉ l.take j) ∧ Aside (Below w.heap.size w wr))
  case atStart => exact ⟨0, by omega, by omega, rfl, fun j hj => absurd hj (Nat.not_lt_zero _), Below.refl _ _⟩
  case round =>
    obtain ⟨k, hk, hgg, rfl, HK, HB⟩ := hrel
    by_cases hlt : k < n
    · have hltz : (k : Int) < (n : Int) := by omega
      have hkc : (k : Int) ≤ (c : Int) := by omega
      have h0k : (0 : Int) ≤ (k : Int) := by omega
      obtain ⟨b, off, hb, hbl, hc⟩ := HA.out.cell (by omega)
      obtain ⟨y, hy⟩ : ∃ y : ByteArray, y = ⟨l[k]!.1.toArray⟩ := ⟨_, rfl⟩
      obtain ⟨z, hz⟩ : ∃ z : ByteArray, z = ⟨l[k]!.2.toArray⟩ := ⟨_, rfl⟩
      have hyz : (y.data.toList, z.data.toList) = l[k]! := by rw [hy, hz]
      have c0 := (HB.out.cell (p := ⟨b, off + k * 2, none⟩) hbl).trans (hc k hlt).1
      have c1 := (HB.out.cell (p := ⟨b, off + k * 2 + 1, none⟩) hbl).trans (hc k hlt).2
      rw [← hy] at c0
      rw [← hz] at c1
      have hC := fun W (hW : Below w.heap.size w W) => containsLink_any W ad k c (l.take k) y z ((HA.out.below hW).take (by omega)) (by omega)
      rw [hyz] at hC
      have HYZ := Lib.hid hyz
      subst hb
      clear hc hy hz hyz
      have acc := HB.out.alloc HB.out.size (.cells #[.string y, .string z] 39)
      have KP : ∀ W, Below (wr.alloc (.cells #[.string y, .string z] 39)).heap.size (wr.alloc (.cells #[.string y, .string z] 39)) W → W.cell? ⟨wr.heap.size, 0, none⟩ = some (.string y) ∧ W.cell? ⟨wr.heap.size, 1, none⟩ = some (.string z) := fun W h =>
        ⟨(h.cell (p := ⟨wr.heap.size, 0, none⟩) (by simp)).trans (cell_new rfl _ _ rfl), (h.cell (p := ⟨wr.heap.size, 1, none⟩) (by simp)).trans (cell_new rfl _ _ rfl)⟩
      have KP := Lib.hid KP
      by_cases hin : l[k]! ∈ l.take k
      · have hr : R = true := by
          rw [HR.out, Bool.not_eq_true', decide_eq_false_iff_not, nodup_at]
          intro h
          exact h k (by rw [HA.out.len]; exact hlt) hin
        rw [decide_eq_true hin] at hC
        subst hr
        clear hin
        go_wp2_with fail
        generalize wr.alloc (.cells #[.string y, .string z] 39) = w3 at acc KP ⊢
        obtain ⟨x0, x1⟩ := KP.out w3 (Below.refl _ _)
        go_still_tail 4, (by kernel_rfl)
        change wpList _ _ _ _ _ w3.drew
        have acc := acc.drew
        have hC2 := hC _ acc
        clear hC KP x0 x1
        generalize w3.drew = w4 at acc hC2 ⊢
        go_wp2_with (go_at_call 26; refine hC2.mono ?_; rintro e w5 ⟨rfl, hb5⟩)
        go_ret
        exact ⟨rfl, acc.trans (hb5.mono acc.size)⟩
      · rw [decide_eq_false hin] at hC
        have HIN := Lib.hid hin
        clear hin
        go_wp2_with fail
        generalize wr.alloc (.cells #[.string y, .string z] 39) = w3 at acc KP ⊢
        obtain ⟨x0, x1⟩ := KP.out w3 (Below.refl _ _)
        go_still_tail 4, (by kernel_rfl)
        change wpList _ _ _ _ _ w3.drew
        have acc := acc.drew
        have hC2 := hC _ acc
        clear hC KP x0 x1
        generalize w3.drew = w4 at acc hC2 ⊢
        go_wp2_with (go_at_call 26; refine hC2.mono ?_; rintro e w5 ⟨rfl, hb5⟩)
        go_roundg (n - (k + 1))
        case measure => omega
        case rel =>
          refine ⟨k + 1, by omega, by omega, by go_num, fun j hj => ?_, acc.trans (hb5.mono acc.size)⟩
          by_cases e : j = k
          · subst e; exact HIN.out
          · exact HK.out j (by omega)
    · have hk : k = n := by omega
      subst hk
      have hr : R = false := by
        rw [HR.out, Bool.not_eq_false', decide_eq_true_iff, nodup_at]
        intro i hi
        exact HK.out i (by rw [← HA.out.len]; exact hi)
      subst hr
      go_wp2
      go_ret
      exact ⟨rfl, HB.out⟩
end Go.Proofs.YtcleonpckgfdhaaGreatDoor
