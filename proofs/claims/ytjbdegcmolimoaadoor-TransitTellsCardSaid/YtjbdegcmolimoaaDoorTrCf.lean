/-
  slices.ContainsFunc at transit.Compress' predicate.
-/
import Derived.Test.YtjbdegcmolimoaaDoorTrShort
set_option linter.unusedVariables false
set_option linter.unusedSimpArgs false
namespace Go.Proofs.YtjbdegcmolimoaaDoor
open Go Go.RowKit Go.Lib Go.Shelf

theorem notR_any (w : World) (s : ByteArray) (hg : Glob w) (hs : s.size < 90000) : Calls Tryd.prog 36 #[.string s] w fun e w' => e = .returned (.bool (!isR s.data.toList)) ∧ Below w.heap.size w w' := by
  have hI := is_any w s hg hs
  go_enter Tryd.func36, Tryd.ntmps36
  go_wp2_with (go_at_call 28; refine hI.mono ?_; rintro e w' ⟨rfl, hb⟩)
  go_ret
  exact ⟨rfl, hb⟩

def Ix2Post (w w' : World) (l : List Str) (e : Ending) : Prop := ∃ r : Int, e = .returned (.int .i64 r) ∧ decide (0 ≤ r) = l.any (fun s => !isR s) ∧ -1 ≤ r ∧ Below w.heap.size w w'

set_option maxHeartbeats 1000000 in
theorem notRIx_any (w : World) (hg : Glob w) (ad : Option Addr) (n c : Nat) (l : List Str) (hA : At w ad n l) (hbig : n ≤ 4611686018427387904) (hsz : ∀ x ∈ l, x.length < 90000) :
    Calls Tryd.prog 47 #[.slice ad n c, .func (.func 36) #[] #[]] w fun e w' => Ix2Post w w' l e := by
  have eg : ∀ args w, (callFunc 36 args).run Tryd.prog w = .ok (.enter 36 args) w := enters_of Tryd.func36 (by kernel_rfl) rfl
  have HA : Aside (At w ad n l) := hA
  have HG := Lib.hid hg
  have HSZ := Lib.hid hsz
  clear hA hg hsz
  go_enter Tryd.func47, Tryd.ntmps47
  go_wp2
  go_loopg [8] n (fun gg s8 wr => ∃ k : Nat, k ≤ n ∧ n - k ≤ gg ∧ s8 = .int .i64 k ∧ Aside (∀ j, j < k → isR l[j]! = true) ∧ Aside (Below w.heap.size w wr))
  case atStart => exact ⟨0, by omega, by omega, rfl, fun j hj => absurd hj (Nat.not_lt_zero _), Below.refl _ _⟩
  case round =>
    obtain ⟨k, hk, hgg, rfl, HK, HB⟩ := hrel
    by_cases hlt : k < n
    · have hltz : (k : Int) < (n : Int) := by omega
      obtain ⟨b, off, hb, hbl, hc⟩ := HA.out.cell (by omega)
      obtain ⟨y, HY⟩ : ∃ y, Aside (l[k]! = y) := ⟨_, rfl⟩
      have c0 := (HB.out.cell (p := ⟨b, off + k, none⟩) hbl).trans (hc k hlt)
      rw [HY.out] at c0
      have hmem : y ∈ l := by rw [← HY.out, getElem!_pos l k (by rw [HA.out.len]; omega)]; exact List.getElem_mem _
      have hys := HSZ.out y hmem
      have hys : (⟨y.toArray⟩ : ByteArray).size < 90000 := hys
      have HYS := Lib.hid hys
      have hany : isR y = false → (l.any fun s => !isR s) = true := fun h => List.any_eq_true.2 ⟨y, hmem, by rw [h]; rfl⟩
      have HAN := Lib.hid hany
      subst hb
      clear hc hany hmem hys
      by_cases hw : isR y = true
      · go_wp2_with (go_at_call 36; refine (notR_any _ _ (HG.out.below HB.out) HYS.out).mono ?_; rintro e w2 ⟨rfl, hb2⟩)
        go_roundg (n - (k + 1))
        case measure => omega
        case rel =>
          refine ⟨k + 1, by omega, by omega, by go_num, fun j hj => ?_, HB.out.trans (hb2.mono HB.out.size)⟩
          by_cases e : j = k
          · subst e; rw [HY.out]; exact hw
          · exact HK.out j (by omega)
      · have hw : isR y = false := by simpa using hw
        go_wp2_with (go_at_call 36; refine (notR_any _ _ (HG.out.below HB.out) HYS.out).mono ?_; rintro e w2 ⟨rfl, hb2⟩)
        go_ret
        exact ⟨k, rfl, by rw [HAN.out hw]; simp, by omega, HB.out.trans (hb2.mono HB.out.size)⟩
    · have hk : k = n := by omega
      subst hk
      have hnone : (l.any fun s => !isR s) = false := by
        rw [List.any_eq_false]
        intro x hx
        obtain ⟨j, hj, rfl⟩ := List.getElem_of_mem hx
        have := HK.out j (by rw [← HA.out.len]; exact hj)
        rw [getElem!_pos l j hj] at this
        simp [this]
      have HN := Lib.hid hnone
      clear hnone
      go_wp2
      go_ret
      exact ⟨-1, rfl, by rw [HN.out]; rfl, by omega, HB.out⟩

theorem notRAny_any (w : World) (hg : Glob w) (ad : Option Addr) (n c : Nat) (l : List Str) (hA : At w ad n l) (hbig : n ≤ 4611686018427387904) (hsz : ∀ x ∈ l, x.length < 90000) :
    Calls Tryd.prog 35 #[.slice ad n c, .func (.func 36) #[] #[]] w fun e w' => e = .returned (.bool (l.any fun s => !isR s)) ∧ Below w.heap.size w w' := by
  have hI := notRIx_any w hg ad n c l hA hbig hsz
  clear hA hg hsz
  go_enter Tryd.func35, Tryd.ntmps35
  go_wp2_with (go_at_call 47; refine hI.mono ?_; rintro e w2 ⟨r, rfl, hr, hr1, hb⟩)
  go_ret
  exact ⟨by first | rfl | (rw [← hr]; rfl), hb⟩
end Go.Proofs.YtjbdegcmolimoaaDoor
