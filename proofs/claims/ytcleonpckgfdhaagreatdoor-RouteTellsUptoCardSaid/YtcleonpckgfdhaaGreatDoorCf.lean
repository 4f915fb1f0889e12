/-
  slices.ContainsFunc at name.labels' predicate.
-/
import Derived.Test.YtcleonpckgfdhaaGreatDoorWord
set_option linter.unusedVariables false
set_option linter.unusedSimpArgs false
namespace Go.Proofs.YtcleonpckgfdhaaGreatDoor
open Go Go.RowKit Go.Lib Go.Shelf

/-- A row of texts, as the world holds it. -/
structure At (w : World) (ad : Option Addr) (n : Nat) (l : List Str) : Prop where
  len : l.length = n
  cell : 0 < n → ∃ b off, ad = some ⟨b, off, none⟩ ∧ b < w.heap.size ∧ ∀ j, j < n → w.cell? ⟨b, off + j, none⟩ = some (.string ⟨l[j]!.toArray⟩)

theorem At.below {w w' : World} {ad : Option Addr} {n : Nat} {l : List Str} (h : At w ad n l) (hb : Below w.heap.size w w') : At w' ad n l := by
  refine ⟨h.len, fun hn => ?_⟩
  obtain ⟨b, off, e, hlt, hc⟩ := h.cell hn
  exact ⟨b, off, e, Nat.lt_of_lt_of_le hlt hb.size, fun j hj => (hb.cell hlt).trans (hc j hj)⟩
theorem At.drew {w : World} {ad : Option Addr} {n : Nat} {l : List Str} (h : At w ad n l) (q : Nat) : At (w.drewN q) ad n l := ⟨h.len, fun hn => by
  obtain ⟨b, off, e, hlt, hc⟩ := h.cell hn
  exact ⟨b, off, e, hlt, hc⟩⟩
theorem At.take {w : World} {ad : Option Addr} {n : Nat} {l : List Str} (h : At w ad n l) {m : Nat} (hm : m ≤ n) : At w ad m (l.take m) := by
  refine ⟨by simp [h.len]; omega, fun h0 => ?_⟩
  obtain ⟨b, off, e, hlt, hc⟩ := h.cell (by omega)
  refine ⟨b, off, e, hlt, fun j hj => ?_⟩
  rw [hc j (by omega), getElem!_pos l j (by rw [h.len]; omega), getElem!_pos (l.take m) j (by simp [h.len]; omega)]
  simp
theorem At.nil (w : World) (ad : Option Addr) : At w ad 0 [] := ⟨rfl, fun h => absurd h (Nat.lt_irrefl 0)⟩

def IxPost (w w' : World) (l : List Str) (e : Ending) : Prop := ∃ r : Int, e = .returned (.int .i64 r) ∧ decide (0 ≤ r) = l.any (fun s => !word upB s) ∧ -1 ≤ r ∧ Below w.heap.size w w'

set_option maxHeartbeats 1000000 in
theorem badIx_any (w : World) (ad : Option Addr) (n c : Nat) (l : List Str) (hA : At w ad n l) (hbig : n ≤ 4611686018427387904) :
    Calls Tryz.prog 45 #[.slice ad n c, .func (.func 57) #[] #[]] w fun e w' => IxPost w w' l e := by
  have eg : ∀ args w, (callFunc 57 args).run Tryz.prog w = .ok (.enter 57 args) w := enters_of Tryz.func57 (by kernel_rfl) rfl
  have HA : Aside (At w ad n l) := hA
  clear hA
  go_enter Tryz.func45, Tryz.ntmps45
  go_wp2
  go_loopg [8] n (fun gg s8 wr => ∃ k : Nat, k ≤ n ∧ n - k ≤ gg ∧ s8 = .int .i64 k ∧ Aside (∀ j, j < k → word upB l[j]! = true) ∧ Aside (Below w.heap.size w wr))
  case atStart => exact ⟨0, by omega, by omega, rfl, fun j hj => absurd hj (Nat.not_lt_zero _), Below.refl _ _⟩
  case round =>
    obtain ⟨k, hk, hgg, rfl, HK, HB⟩ := hrel
    by_cases hlt : k < n
    · have hltz : (k : Int) < (n : Int) := by omega
      obtain ⟨b, off, hb, hbl, hc⟩ := HA.out.cell (by omega)
      obtain ⟨y, HY⟩ : ∃ y, Aside (l[k]! = y) := ⟨_, rfl⟩
      have c0 := (HB.out.cell (p := ⟨b, off + k, none⟩) hbl).trans (hc k hlt)
      rw [HY.out] at c0
      have hany : word upB y = false → (l.any fun s => !word upB s) = true := fun h => List.any_eq_true.2 ⟨l[k]!, by rw [getElem!_pos l k (by rw [HA.out.len]; omega)]; exact List.getElem_mem _, by rw [HY.out, h]; rfl⟩
      have HAN := Lib.hid hany
      subst hb
      clear hc hany
      by_cases hw : word upB y = true
      · go_wp2_with (go_at_call 57; refine (bad_any _ _).mono ?_; rintro e w2 ⟨rfl, hb2⟩)
        go_roundg (n - (k + 1))
        case measure => omega
        case rel =>
          refine ⟨k + 1, by omega, by omega, by go_num, fun j hj => ?_, HB.out.trans (hb2.mono HB.out.size)⟩
          by_cases e : j = k
          · subst e; rw [HY.out]; exact hw
          · exact HK.out j (by omega)
      · have hw : word upB y = false := by simpa using hw
        go_wp2_with (go_at_call 57; refine (bad_any _ _).mono ?_; rintro e w2 ⟨rfl, hb2⟩)
        go_ret
        exact ⟨k, rfl, by rw [HAN.out hw]; simp, by omega, HB.out.trans (hb2.mono HB.out.size)⟩
    · have hk : k = n := by omega
      subst hk
      have hnone : (l.any fun s => !word upB s) = false := by
        rw [List.any_eq_false]
        intro x hx
        obtain ⟨j, hj, rfl⟩ := List.getElem_of_mem hx
        have := HK.out j (by rw [← HA.out.len]; exact hj)
        rw [getElem!_pos l j hj] at this
        simp [this]
      have HN := Lib.hid hnone
      clear hnone
      go_wp2
      go_ret
      exact ⟨-1, rfl, by rw [HN.out]; rfl, by omega, HB.out⟩

theorem badAny_any (w : World) (ad : Option Addr) (n c : Nat) (l : List Str) (hA : At w ad n l) (hbig : n ≤ 4611686018427387904) :
    Calls Tryz.prog 29 #[.slice ad n c, .func (.func 57) #[] #[]] w fun e w' => e = .returned (.bool (l.any fun s => !word upB s)) ∧ Below w.heap.size w w' := by
  have hI := badIx_any w ad n c l hA hbig
  clear hA
  go_enter Tryz.func29, Tryz.ntmps29
  go_wp2_with (go_at_call 45; refine hI.mono ?_; rintro e w2 ⟨r, rfl, hr, hr1, hb⟩)
  go_ret
  exact ⟨by first | rfl | (rw [← hr]; rfl), hb⟩
end Go.Proofs.YtcleonpckgfdhaaGreatDoor
