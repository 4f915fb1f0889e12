/-
  The laws' 'long' over acts; the program's Restart with what it leaves untouched.
-/
import Derived.Test.YtjikekfjhfcdpaaActs
set_option linter.unusedVariables false
set_option linter.unusedSimpArgs false
namespace Go.Proofs.Ytjikekfjhfcdpaa
open Go Go.RowKit Go.Lib Go.Shelf

theorem restart_frame (w : World) (B : Nat) (ad : Option Addr) (n cap : Nat) (on : Bool) (since now : Int) (hO : Obj3 w B (.slice ad n cap) on since) :
    Calls Try.prog 16 #[.pointer (some ⟨B, 0, none⟩), .int .i64 now] w fun e w' => e = .returned (.tuple #[]) ∧ SeePost2 w w' B ad [] true now := by
  have b0 := hO.c0
  have b1 := hO.c1
  have b2 := hO.c2
  have f0 := hO.f 0
  have f1 := hO.f 1
  have f2 := hO.f 2
  have HO : Aside (Obj3 w B (.slice ad n cap) on since) := hO
  clear hO
  go_enter Try.func16, Try.ntmps16
  go_wp2
  go_end0
  refine ⟨rfl, none, 0, ?_, World.ownsRow_nil _ _ _ _, ?_, ?_⟩
  · have h := HO.out
    have h1 := heap_setCell_same w B 0 _ 50 (.slice none 0 0) h
    have h2 := heap_setCell_same _ B 1 _ 50 (.bool true) h1
    exact heap_setCell_same _ B 2 _ 50 (.int .i64 now) h2
  · exact (((Fr.refl _ w).setCell (p := ⟨B, 0, none⟩) (.inl rfl) _).setCell (p := ⟨B, 1, none⟩) (.inl rfl) _).setCell (p := ⟨B, 2, none⟩) (.inl rfl) _
  · intro k hk
    rcases hk with rfl | hk
    · exact .inl (.inl rfl)
    · simp [Value.ownBlock] at hk

theorem len_frame (w : World) (B cap n : Nat) (ad : Option Addr) (on : Bool) (since : Int) (hO : Obj3 w B (.slice ad n cap) on since) :
    Calls Try.prog 12 #[.pointer (some ⟨B, 0, none⟩)] w fun e w' => e = .returned (.int .i64 n) ∧ w = w' := by
  have b0 := hO.c0
  clear hO
  go_enter Try.func12, Try.ntmps12
  go_wp2
  go_ret
  exact ⟨rfl, rfl⟩

/-- What is known where the acts are not too long. -/
def Calm (l : List Act1) (n : Nat) : Prop := ∀ j, j < n → j < 80 → 0 ≤ l[j]!.a.time ∧ l[j]!.a.time ≤ 1073741824

def LongPost (w w' : World) (l : List Act1) (n : Nat) (e : Ending) : Prop := ∃ b : Bool, e = .returned (.bool b) ∧ (b = false → Calm l n) ∧ ∃ q, w' = w.drewN q

set_option maxHeartbeats 1000000 in
theorem long_any (w : World) (ad : Option Addr) (n c : Nat) (l : List Act1) (hr : ReadsActs w ad n c l) : Calls Try.prog 14 #[.slice ad n c] w fun e w' => LongPost w w' l n e := by
  have hbig := hr.big
  have HR : Aside (ReadsActs w ad n c l) := hr
  clear hr
  go_enter Try.func14, Try.ntmps14
  go_wp2
  go_loopg [3, 4] n (fun gg s3 s4 wr => ∃ (k : Nat) (x : Int), k ≤ n ∧ k ≤ 80 ∧ n - k ≤ gg ∧ s4 = .int .i64 k ∧ s3 = .int .i64 x ∧ 0 ≤ x ∧ x ≤ 3000 ∧ Aside (∀ j, j < k → 0 ≤ l[j]!.a.time ∧ l[j]!.a.time ≤ 1073741824) ∧ Aside (∃ q, wr = w.drewN q))
  case atStart => exact ⟨0, 0, by omega, by omega, by omega, rfl, rfl, by omega, by omega, fun j hj => absurd hj (Nat.not_lt_zero _), ⟨0, rfl⟩⟩
  case round =>
    obtain ⟨k, x, hk, hk80, hgg, rfl, rfl, hx0, hx1, HA, HQ⟩ := hrel
    by_cases hlt : k < n ∧ k < 80
    · obtain ⟨hlt, hlt2⟩ := hlt
      have hltz : (k : Int) < (n : Int) := by omega
      have hltz2 : (k : Int) < 80 := by omega
      obtain ⟨b, off, hb, hbl, hc⟩ := HR.out.cell (by omega)
      have hfit := HR.out.fits l[k]! (by rw [getElem!_pos l k (by rw [HR.out.len]; omega)]; exact List.getElem_mem _)
      obtain ⟨y, HY⟩ : ∃ y, Aside (l[k]! = y) := ⟨_, rfl⟩
      have hcw : ∀ p, wr.cell? p = w.cell? p := fun p => by obtain ⟨q, hq⟩ := HQ.out; rw [hq, World.cell?_drewN]
      have c1 := (hcw _).trans (hc k hlt 1 (by omega))
      have c2 := (hcw _).trans (hc k hlt 2 (by omega))
      have c3 := (hcw _).trans (hc k hlt 3 (by omega))
      rw [HY.out] at c1 c2 c3 hfit
      simp only [encAct, List.getElem?_cons_zero, List.getElem?_cons_succ] at c1 c2 c3
      have hr := hfit.realm
      have hn := hfit.name
      subst hb
      clear hc hcw hfit
      have hstep : 0 ≤ y.a.time → y.a.time ≤ 1073741824 → ∀ j, j < k + 1 → 0 ≤ l[j]!.a.time ∧ l[j]!.a.time ≤ 1073741824 := fun h1 h2 j hj => by
        by_cases e : j = k
        · subst e; rw [HY.out]; exact ⟨h1, h2⟩
        · exact HA.out j (by omega)
      have HST := Lib.hid hstep
      clear hstep
      by_cases hX : (3000 : Int) < x + 1 + (y.a.name.size : Int) + (y.a.realm.size : Int)
      · go_wp2
        go_quiet (fail)
        go_wp2
        go_ret
        obtain ⟨q, hq⟩ := HQ.out
        exact ⟨true, rfl, fun h => absurd h (by decide), q + nq, by rw [hq, World.drewN_drewN]⟩
      · by_cases hT : y.a.time < 0
        · go_wp2
          go_quiet (fail)
          go_wp2
          go_ret
          obtain ⟨q, hq⟩ := HQ.out
          exact ⟨true, rfl, fun h => absurd h (by decide), q + nq, by rw [hq, World.drewN_drewN]⟩
        · by_cases hU : (1073741824 : Int) < y.a.time
          · go_wp2
            go_quiet (fail)
            go_wp2
            go_ret
            obtain ⟨q, hq⟩ := HQ.out
            exact ⟨true, rfl, fun h => absurd h (by decide), q + nq, by rw [hq, World.drewN_drewN]⟩
          · go_wp2
            go_quiet (fail)
            go_wp2
            go_roundg (n - (k + 1))
            case measure => omega
            case rel =>
              obtain ⟨q, hq⟩ := HQ.out
              exact ⟨k + 1, _, by omega, by omega, by omega, by go_num, rfl, by omega, by omega, HST.out (by omega) (by omega), ⟨q + nq, by rw [hq, World.drewN_drewN]⟩⟩
    · have hend : ∀ j, j < n → j < 80 → j < k := fun j h1 h2 => by omega
      have HE := Lib.hid hend
      clear hend
      by_cases hkn : k < n
      · have hkz : (k : Int) < (n : Int) := by omega
        have hk8 : ¬ (k : Int) < 80 := by omega
        go_wp2
        go_ret
        exact ⟨false, rfl, fun _ j h1 h2 => HA.out j (HE.out j h1 h2), HQ.out⟩
      · have hkz : ¬ (k : Int) < (n : Int) := by omega
        go_wp2
        go_ret
        exact ⟨false, rfl, fun _ j h1 h2 => HA.out j (HE.out j h1 h2), HQ.out⟩

end Go.Proofs.Ytjikekfjhfcdpaa
