/-
  slices.Backward at a row of texts: its iterator's contract.
-/
import Derived.Test.YtcleonpckgfdhaaGreatDoorRtLaid
import Derived.RangeFuncBox
import Derived.RangeFuncLeaves
import Derived.RangeFuncNested
import Derived.RangeFuncBound
import Derived.RangeFuncCalls
import Derived.Shelf.Abstract
import Derived.Shelf.RegionOpen
import Derived.OwnWalkIn
import Derived.TacticsInMore
import Derived.LoopNIn
import Derived.LoopIn
set_option linter.unusedVariables false
set_option linter.unusedSimpArgs false
set_option maxRecDepth 100000
namespace Go.Proofs.YtcleonpckgfdhaaGreatDoor
open Go Go.RowKit Go.Lib Go.Shelf

attribute [local go_sem] Oper.semAt_some

/-- What comes, the last one first: an index and a text. -/
def back (l : List Str) : Nat → List (Nat × Str)
  | 0 => []
  | k + 1 => back l k ++ [(l.length - 1 - k, l[l.length - 1 - k]!)]
theorem back_length (l : List Str) (k : Nat) : (back l k).length = k := by
  induction k with
  | zero => rfl
  | succ k ih => simp [back, ih]
abbrev encsB (x : Nat × Str) : Array Value := #[.int .i64 (x.1 : Int), .string ⟨x.2.toArray⟩]

set_option maxHeartbeats 2000000 in
theorem back1_in (F : Fence) (n : Nat) (h8 : F.fn 36) (hro : F.round = none) (hn : 1 ≤ n) (l Bs n₀ : Nat) (ad : Option Addr) (len cap : Nat) (zs : List Str) (hreach : len ≤ 200000) (J Jx : List (Nat × Str) → World → Prop)
    (hY : ∀ pre x W, J pre W → pre.length < len → YieldAt F (n - 1) Tryz.prog l #[.int .i64 (x.1 : Int), .string ⟨x.2.toArray⟩] W fun e W' =>
      (e = .returned (.bool true) ∧ J (pre ++ [x]) W' ∧ Below n₀ W W') ∨ (e = .returned (.bool false) ∧ Jx (pre ++ [x]) W'))
    (W : World) (hBs : Bs < n₀) (hc : W.cell? ⟨Bs, 0, none⟩ = some (.slice ad len cap)) (hA : At W ad len zs) (hlt : ∀ b off, ad = some ⟨b, off, none⟩ → b < n₀) (h0 : J [] W) :
    CallsIn F n Tryz.prog 36 #[.func (.yield l) #[] #[], .pointer (some ⟨Bs, 0, none⟩)] W fun e W' => (∃ v, e = .returned v) ∧
      ((∃ ys, ys = back zs len ∧ J ys W') ∨ (∃ pre, (∃ k, k ≤ len ∧ pre = back zs k) ∧ Jx pre W')) := by
  have HA := Lib.hid hA
  have HC := Lib.hid hc
  clear hA
  refine callsIn_of_wp Tryz.func36 rfl h8 ?_ hro
  simp only [Tryz.ntmps36, List.size_toArray, List.length_cons, List.length_nil, Nat.reduceAdd, Nat.reduceSub, Array.replicate_succ, Array.replicate_zero, List.push_toArray, List.append_toArray, List.nil_append, List.cons_append]
  gi_wp2
  clear hc
  gi_loopw [3] (fun i wr => ∃ (m : Nat) (i0 : Int), m ≤ len ∧ i0 + 1 = m ∧ i = .int .i64 i0 ∧ J (back zs (len - m)) wr ∧ Below n₀ W wr)
    (fun i _ => (intOf i + 1).toNat)
  case atStart => exact ⟨len, (len : Int) - 1, Nat.le_refl _, by omega, rfl, by rw [Nat.sub_self]; exact h0, Below.refl _ _⟩
  case round =>
    obtain ⟨m, i0, hm, hi0, rfl, hJs, hnx⟩ := hrel
    have hcb : wr.cell? ⟨Bs, 0, none⟩ = some (.slice ad len cap) := (hnx.cell (p := ⟨Bs, 0, none⟩) hBs).trans HC.out
    cases m with
    | zero =>
      obtain rfl : i0 = -1 := by omega
      gi_wp2
      go_end0
      exact ⟨⟨_, rfl⟩, .inl ⟨_, rfl, hJs⟩⟩
    | succ m =>
      obtain rfl : i0 = (m : Int) := by omega
      obtain ⟨b, off, hb, hbl, hcs⟩ := HA.out.cell (by omega)
      have c0 := (hnx.cell (p := ⟨b, off + m, none⟩) (hlt b off hb)).trans (hcs m (by omega))
      obtain ⟨y, hy⟩ : ∃ y, y = zs[m]! := ⟨_, rfl⟩
      rw [← hy] at c0
      have hlz := HA.out.len
      obtain ⟨fn, tmps, assign, body, hy2, hR⟩ := hY _ (m, y) wr hJs (by rw [back_length]; omega)
      dsimp only at hy2
      have hbk : back zs (len - m) = back zs (len - (m + 1)) ++ [(m, y)] := by
        rw [show len - m = len - (m + 1) + 1 by omega, back, hlz, show len - 1 - (len - (m + 1)) = m by omega, hy]
      have HBK := Lib.hid hbk
      have hmz : (m : Int) < (len : Int) := by omega
      have hmz0 : (0 : Int) ≤ (m : Int) := by omega
      have HM := Lib.hid hm
      clear hbk hy hcs hlz hi0 hm
      subst hb
      gi_wp2
      refine hR.mono ?_
      rintro e W3 (⟨rfl, hJ3, hk3⟩ | ⟨rfl, hJx3⟩)
      · gi_wp2
        go_roundw
        case rel => exact ⟨m, (m : Int) - 1, by have := HM.out; omega, by omega, rfl, by rw [HBK.out]; exact hJ3, hnx.trans hk3⟩
        case measure => simp [intOf]
      · gi_wp2
        refine bodyPost_ret (results_none rfl _ _ _) rfl ?_
        exact ⟨⟨_, rfl⟩, .inr ⟨_, ⟨len - m, by omega, HBK.out.symm⟩, hJx3⟩⟩

theorem backward_in (F : Fence) (n : Nat) (h5 : F.fn 23) (hro : F.round = none) (a : Option Addr) (len cap : Nat) (w : World) :
    CallsIn F n Tryz.prog 23 #[.slice a len cap] w fun e w' => e = .returned (.func (.func 36) #[] #[.pointer (some ⟨w.heap.size, 0, none⟩)]) ∧ w' = w.alloc (.cells #[.slice a len cap] 22) := by
  refine callsIn_of_wp Tryz.func23 rfl h5 ?_ hro
  simp only [Tryz.ntmps23, List.size_toArray, List.length_cons, List.length_nil, Nat.reduceAdd, Nat.reduceSub, Array.replicate_succ, Array.replicate_zero, List.push_toArray, List.append_toArray, List.nil_append, List.cons_append]
  gi_wp2
  go_ret
  exact ⟨rfl, rfl⟩

/-- **WHAT slices.Backward HANDS BACK.** -/
theorem back_stops (F : Fence) (n : Nat) (h8 : F.fn 36) (hro : F.round = none) (hn : 1 ≤ n) (Bs n₀ : Nat) (ad : Option Addr) (len cap : Nat) (zs : List Str) (hreach : len ≤ 200000) (w : World) (hBs : Bs < n₀) (hn₀ : n₀ ≤ w.heap.size)
    (hc : w.cell? ⟨Bs, 0, none⟩ = some (.slice ad len cap)) (hA : At w ad len zs) (hlt : ∀ b off, ad = some ⟨b, off, none⟩ → b < n₀) :
    SeqStopsK F n Tryz.prog 36 #[.pointer (some ⟨Bs, 0, none⟩)] encsB (Below n₀) (fun ys => ys = back zs len)
      (fun pre => ∃ k, k ≤ len ∧ pre = back zs k) len w := fun l J Jx W hW _ _ hY h0 =>
  back1_in F n h8 hro hn l Bs n₀ ad len cap zs hreach J Jx hY W hBs ((hW.cell (p := ⟨Bs, 0, none⟩) (by show Bs < _; omega)).trans hc) (hA.below hW) hlt h0
end Go.Proofs.YtcleonpckgfdhaaGreatDoor
