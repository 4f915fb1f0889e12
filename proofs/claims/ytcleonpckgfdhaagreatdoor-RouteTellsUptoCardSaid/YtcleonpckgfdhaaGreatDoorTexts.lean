/-
  legatelaw5.texts: are two rows one?
-/
import Derived.Test.YtcleonpckgfdhaaGreatDoorRefUnder
set_option linter.unusedVariables false
set_option linter.unusedSimpArgs false
namespace Go.Proofs.YtcleonpckgfdhaaGreatDoor
open Go Go.RowKit Go.Lib Go.Shelf

set_option maxHeartbeats 2000000 in
theorem texts_any (w : World) (ad ad2 : Option Addr) (n c m d : Nat) (l k : List Str) (hA : At w ad n l) (hB : At w ad2 m k) (hn : n ≤ 100000) (hm : m ≤ 100000) :
    Calls Tryz.prog 13 #[.slice ad n c, .slice ad2 m d] w fun e w' => e = .returned (.bool (decide (l = k))) ∧ Below w.heap.size w w' := by
  have HA := Lib.hid hA
  have HB := Lib.hid hB
  have hl := hA.len
  have hk := hB.len
  obtain ⟨r, hr⟩ : ∃ r, r = decide (l = k) := ⟨_, rfl⟩
  rw [← hr]
  have HR := Lib.hid hr
  clear hA hB hr
  by_cases hnm : n = m
  · have hnmb : ((n : Int) == (m : Int)) = true := by simp [hnm]
    have hnmb2 : ((n : Int) != (m : Int)) = false := by simp [hnm]
    go_enter Tryz.func13, Tryz.ntmps13
    go_wp2
    go_loopg [5] n (fun gg s5 wr => ∃ i : Nat, i ≤ n ∧ n - i ≤ gg ∧ s5 = .int .i64 i ∧ Aside (∀ j, j < i → l[j]! = k[j]!) ∧ Aside (∃ q, wr = w.drewN q))
    case atStart => exact ⟨0, by omega, by omega, rfl, fun j hj => absurd hj (Nat.not_lt_zero _), 0, rfl⟩
    case round =>
      obtain ⟨i, hi, hgg, rfl, HE, HQ⟩ := hrel
      by_cases hlt : i < n
      · have hltz : (i : Int) < (n : Int) := by omega
        have hltm : (i : Int) < (m : Int) := by omega
        obtain ⟨b1, o1, hb1, hbl1, hc1⟩ := HA.out.cell (by omega)
        obtain ⟨b2, o2, hb2, hbl2, hc2⟩ := HB.out.cell (by omega)
        obtain ⟨x, hx⟩ : ∃ x : ByteArray, x = ⟨l[i]!.toArray⟩ := ⟨_, rfl⟩
        obtain ⟨y, hy⟩ : ∃ y : ByteArray, y = ⟨k[i]!.toArray⟩ := ⟨_, rfl⟩
        have hcw : ∀ p, wr.cell? p = w.cell? p := fun p => by obtain ⟨q, hq⟩ := HQ.out; rw [hq, World.cell?_drewN]
        have k1 := (hcw _).trans (hc1 i hlt)
        have k2 := (hcw _).trans (hc2 i (by omega))
        rw [← hx] at k1
        rw [← hy] at k2
        have hq := eq_text x y
        have hxd : x.data.toList = l[i]! := by rw [hx]
        have hyd : y.data.toList = k[i]! := by rw [hy]
        have HXD := Lib.hid hxd
        have HYD := Lib.hid hyd
        subst hb1 hb2
        clear hc1 hc2 hcw hx hy hxd hyd
        by_cases e : x.data.toList = y.data.toList
        · rw [decide_eq_true e] at hq
          have HEQ := Lib.hid e
          clear e
          go_wp2
          go_quiet (fail)
          go_wp2
          go_roundg (n - (i + 1))
          case measure => omega
          case rel =>
            obtain ⟨q, hq⟩ := HQ.out
            refine ⟨i + 1, by omega, by omega, by go_num, fun j hj => ?_, ⟨q + nq, by rw [hq, World.drewN_drewN]⟩⟩
            by_cases e : j = i
            · subst e; rw [← HXD.out, ← HYD.out]; exact HEQ.out
            · exact HE.out j (by omega)
        · rw [decide_eq_false e] at hq
          have hrf : r = false := by
            rw [HR.out, decide_eq_false]
            intro h
            apply e
            rw [HXD.out, HYD.out, h]
          subst hrf
          clear e
          go_wp2
          go_quiet (fail)
          go_wp2
          go_ret
          obtain ⟨q, hq⟩ := HQ.out
          exact ⟨rfl, by rw [hq, World.drewN_drewN]; exact below_drewN (Below.refl _ _) _⟩
      · have hltz : ¬ (i : Int) < (n : Int) := by omega
        have hrt : r = true := by
          rw [HR.out, decide_eq_true]
          apply List.ext_getElem
          · omega
          · intro j h1 h2
            have := HE.out j (by omega)
            rw [getElem!_pos l j h1, getElem!_pos k j h2] at this
            exact this
        subst hrt
        go_wp2
        go_ret
        obtain ⟨q, hq⟩ := HQ.out
        exact ⟨rfl, by rw [hq]; exact below_drewN (Below.refl _ _) _⟩
  · have hnmb : ((n : Int) == (m : Int)) = false := by simp; omega
    have hnmb2 : ((n : Int) != (m : Int)) = true := by simp; omega
    have hrf : r = false := by
      rw [HR.out, decide_eq_false]
      intro h
      apply hnm
      rw [← hl, ← hk, h]
    subst hrf
    go_enter Tryz.func13, Tryz.ntmps13
    go_wp2
    go_ret
    exact ⟨rfl, Below.refl _ _⟩
end Go.Proofs.YtcleonpckgfdhaaGreatDoor
