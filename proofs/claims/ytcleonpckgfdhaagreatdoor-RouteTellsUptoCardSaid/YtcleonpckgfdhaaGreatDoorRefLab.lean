/-
  legateref5.labels.
-/
import Derived.Test.YtcleonpckgfdhaaGreatDoorSplit
set_option linter.unusedVariables false
set_option linter.unusedSimpArgs false
namespace Go.Proofs.YtcleonpckgfdhaaGreatDoor
open Go Go.RowKit Go.Lib Go.Shelf

def okL (l : List Str) : Bool := decide (1 ≤ l.length) && (decide (l.length ≤ 4) && l.all (word upB))

theorem okL_false {l : List Str} {i : Nat} (hi : i < l.length) (h : word upB l[i]! = false) : okL l = false := by
  have : l.all (word upB) = false := by
    rw [List.all_eq_false]
    exact ⟨l[i]!, by rw [getElem!_pos l i hi]; exact List.getElem_mem _, by rw [h]; decide⟩
  simp [okL, this]

theorem okL_end {l : List Str} (h : ∀ j, j < l.length → word upB l[j]! = true) : okL l = (decide (1 ≤ (l.length : Int)) && decide ((l.length : Int) ≤ 4)) := by
  have : l.all (word upB) = true := by
    rw [List.all_eq_true]
    intro x hx
    obtain ⟨j, hj, rfl⟩ := List.getElem_of_mem hx
    have := h j hj
    rw [getElem!_pos l j hj] at this
    exact this
  rw [okL, this, Bool.and_true]
  congr 1 <;> (rw [Bool.eq_iff_iff, decide_eq_true_iff, decide_eq_true_iff]; omega)

theorem up_byte {b : UInt8} : upB b = true ↔ 65 ≤ (b.toNat : Int) ∧ (b.toNat : Int) ≤ 90 := by
  simp only [upB, Bool.and_eq_true, decide_eq_true_eq]
  omega

theorem word_of {x : ByteArray} {y : Str} (h : x.data.toList = y) (h1 : 1 ≤ x.size) (h8 : x.size ≤ 8) (ha : ∀ j (hj : j < x.size), upB (x[j]'hj) = true) : word upB y = true := by
  have hl : y.length = x.size := by rw [← h]; rfl
  simp only [word, Bool.and_eq_true, decide_eq_true_eq, List.all_eq_true]
  refine ⟨by omega, by omega, fun b hb => ?_⟩
  rw [← h] at hb
  obtain ⟨j, hj, rfl⟩ := List.getElem_of_mem hb
  exact ha j hj

theorem word_bad {x : ByteArray} {y : Str} (h : x.data.toList = y) {j : Nat} (hj : j < x.size) (hb : upB (x[j]'hj) = false) : word upB y = false := by
  have : y.all upB = false := by
    rw [List.all_eq_false, ← h]
    exact ⟨x.data.toList[j]'hj, List.getElem_mem _, by have e : x.data.toList[j]'hj = x[j]'hj := rfl; rw [e, hb]; decide⟩
  simp [word, this]

theorem word_size {x : ByteArray} {y : Str} (h : x.data.toList = y) (hs : x.size < 1 ∨ 8 < x.size) : word upB y = false := by
  have hl : y.length = x.size := by rw [← h]; rfl
  simp only [word, hl]
  rcases hs with hs | hs
  · rw [decide_eq_false (p := 1 ≤ x.size) (by omega)]; rfl
  · rw [decide_eq_false (p := x.size ≤ 8) (by omega)]; simp

set_option maxHeartbeats 2000000 in
theorem reflabels_any (w : World) (ad : Option Addr) (n c : Nat) (l : List Str) (hA : At w ad n l) (hn : n ≤ 2200000) :
    Calls Tryz.prog 63 #[.slice ad n c] w fun e w' => e = .returned (.bool (okL l)) ∧ w' = w := by
  have HA := Lib.hid hA
  have hl := hA.len
  clear hA
  obtain ⟨r, hr⟩ : ∃ r, r = okL l := ⟨_, rfl⟩
  rw [← hr]
  have HR := Lib.hid hr
  clear hr
  go_enter Tryz.func63, Tryz.ntmps63
  go_wp2
  go_loopg [3] n (fun gg s3 wr => ∃ i : Nat, i ≤ n ∧ n - i ≤ gg ∧ s3 = .int .i64 i ∧ Aside (∀ j, j < i → word upB l[j]! = true) ∧ Aside (wr = w))
  case atStart => exact ⟨0, by omega, by omega, rfl, fun j hj => absurd hj (Nat.not_lt_zero _), rfl⟩
  case round =>
    obtain ⟨i, hi, hgg, rfl, HW, HQ⟩ := hrel
    have hq := HQ.out
    subst hq
    clear HQ
    by_cases hlt : i < n
    · have hltz : (i : Int) < (n : Int) := by omega
      obtain ⟨b, off, hb, hbl, hc⟩ := HA.out.cell (by omega)
      obtain ⟨x, hx⟩ : ∃ x : ByteArray, x = ⟨l[i]!.toArray⟩ := ⟨_, rfl⟩
      have c0 := hc i hlt
      rw [← hx] at c0
      have hxl : x.data.toList = l[i]! := by rw [hx]
      have HX := Lib.hid hxl
      subst hb
      clear hc hx hxl
      by_cases h1 : (x.size : Int) < 1
      · have hf := okL_false (by omega) (word_size HX.out (.inl (by omega)))
        have HF := Lib.hid (HR.out.trans hf)
        clear hf
        go_wp2
        go_ret
        exact ⟨by rw [HF.out]; rfl, rfl⟩
      · by_cases h8 : (8 : Int) < (x.size : Int)
        · have hf := okL_false (by omega) (word_size HX.out (.inr (by omega)))
          have HF := Lib.hid (HR.out.trans hf)
          clear hf
          go_wp2
          go_ret
          exact ⟨by rw [HF.out]; rfl, rfl⟩
        · go_wp2
          go_loopg [4] x.size (fun gg s4 wr2 => ∃ k : Nat, k ≤ x.size ∧ x.size - k ≤ gg ∧ s4 = .int .i64 k ∧ Aside (∀ j (hj : j < x.size), j < k → upB (x[j]'hj) = true) ∧ Aside (wr2 = wr))
          case atStart => exact ⟨0, by omega, by omega, rfl, fun j hj hk => absurd hk (Nat.not_lt_zero _), rfl⟩
          case round =>
            obtain ⟨k, hk, hgg2, rfl, HU, HQ2⟩ := hrel
            have hq := HQ2.out
            subst hq
            clear HQ2
            by_cases hkl : k < x.size
            · have hklz : (k : Int) < (x.size : Int) := by omega
              by_cases hlo : ((x[k]'hkl).toNat : Int) < 65
              · have hub : upB (x[k]'hkl) = false := by
                  cases h : upB (x[k]'hkl)
                  · rfl
                  · have := up_byte.1 h; omega
                have HF := Lib.hid (HR.out.trans (okL_false (by omega) (word_bad HX.out hkl hub)))
                clear hub
                go_wp2
                go_ret
                exact ⟨by rw [HF.out]; rfl, rfl⟩
              · by_cases hhi : (90 : Int) < ((x[k]'hkl).toNat : Int)
                · have hub : upB (x[k]'hkl) = false := by
                    cases h : upB (x[k]'hkl)
                    · rfl
                    · have := up_byte.1 h; omega
                  have HF := Lib.hid (HR.out.trans (okL_false (by omega) (word_bad HX.out hkl hub)))
                  clear hub
                  go_wp2
                  go_ret
                  exact ⟨by rw [HF.out]; rfl, rfl⟩
                · have hub : upB (x[k]'hkl) = true := up_byte.2 ⟨by omega, by omega⟩
                  have HUB := Lib.hid hub
                  clear hub
                  go_wp2
                  go_roundg (x.size - (k + 1))
                  case measure => omega
                  case rel =>
                    refine ⟨k + 1, by omega, by omega, by go_num, fun j hj hjk => ?_, rfl⟩
                    by_cases e : j = k
                    · subst e; exact HUB.out
                    · exact HU.out j hj (by omega)
            · have hklz : ¬ (k : Int) < (x.size : Int) := by omega
              have hw := word_of HX.out (by omega) (by omega) (fun j hj => HU.out j hj (by omega))
              have HWD := Lib.hid hw
              clear hw
              go_wp2
              go_roundg (n - (i + 1))
              case measure => omega
              case rel =>
                refine ⟨i + 1, by omega, by omega, by go_num, fun j hj => ?_, rfl⟩
                by_cases e : j = i
                · subst e; exact HWD.out
                · exact HW.out j (by omega)
    · have hltz : ¬ (i : Int) < (n : Int) := by omega
      have he := okL_end (l := l) (fun j hj => HW.out j (by omega))
      have HE := Lib.hid (HR.out.trans he)
      subst hl
      by_cases g1 : 1 ≤ (l.length : Int)
      · by_cases g4 : (l.length : Int) ≤ 4
        · have : r = true := by rw [HE.out]; simp [g4]; omega
          subst this
          clear he
          go_wp2
          go_ret
          exact ⟨rfl, rfl⟩
        · have : r = false := by rw [HE.out, decide_eq_false g4]; simp
          subst this
          clear he
          go_wp2
          go_ret
          exact ⟨rfl, rfl⟩
      · have : r = false := by rw [HE.out, decide_eq_false g1]; simp
        subst this
        clear he
        go_wp2
        go_ret
        exact ⟨rfl, rfl⟩
end Go.Proofs.YtcleonpckgfdhaaGreatDoor
