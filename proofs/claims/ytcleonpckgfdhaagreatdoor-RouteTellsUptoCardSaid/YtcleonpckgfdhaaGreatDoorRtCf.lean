/-
  slices.ContainsFunc at route's predicates.
-/
import Derived.Test.YtcleonpckgfdhaaGreatDoorRtTwice
set_option linter.unusedVariables false
set_option linter.unusedSimpArgs false
set_option maxRecDepth 100000
namespace Go.Proofs.YtcleonpckgfdhaaGreatDoor
open Go Go.RowKit Go.Lib Go.Shelf

def IxAny {α : Type} (w w' : World) (l : List α) (p : α → Bool) (e : Ending) : Prop := ∃ r : Int, e = .returned (.int .i64 r) ∧ decide (0 ≤ r) = l.any p ∧ -1 ≤ r ∧ Below w.heap.size w w'

set_option maxHeartbeats 1000000 in
theorem viaBadIx_any (w : World) (q0 q1 : Nat) (ad : Option Addr) (n c : Nat) (l : List Str) (p : Str → Bool) (hA : At w ad n l) (hbig : n ≤ 4611686018427387904) (hC : ∀ (W : World) (x : Str), Below w.heap.size w W → x ∈ l → Calls Tryz.prog 60 #[.string ⟨x.toArray⟩, .pointer (some ⟨q0, 0, none⟩), .pointer (some ⟨q1, 0, none⟩)] W fun e w' => e = .returned (.bool (p x)) ∧ Below W.heap.size W w') :
    Calls Tryz.prog 45 #[.slice ad n c, .func (.func 60) #[] #[.pointer (some ⟨q0, 0, none⟩), .pointer (some ⟨q1, 0, none⟩)]] w fun e w' => IxAny w w' l p e := by
  have eg : ∀ args w, (callFunc 60 args).run Tryz.prog w = .ok (.enter 60 args) w := enters_of Tryz.func60 (by kernel_rfl) rfl
  have HA := Lib.hid hA
  have HC := Lib.hid hC
  clear hA hC
  go_enter Tryz.func45, Tryz.ntmps45
  go_wp2
  go_loopg [8] n (fun gg s8 wr => ∃ k : Nat, k ≤ n ∧ n - k ≤ gg ∧ s8 = .int .i64 k ∧ Aside (∀ j, j < k → p l[j]! = false) ∧ Aside (Below w.heap.size w wr))
  case atStart => exact ⟨0, by omega, by omega, rfl, fun j hj => absurd hj (Nat.not_lt_zero _), Below.refl _ _⟩
  case round =>
    obtain ⟨k, hk, hgg, rfl, HK, HB⟩ := hrel
    by_cases hlt : k < n
    · have hltz : (k : Int) < (n : Int) := by omega
      obtain ⟨b, off, hb, hbl, hc⟩ := HA.out.cell (by omega)
      obtain ⟨y, HY⟩ : ∃ y, Aside (l[k]! = y) := ⟨_, rfl⟩
      have c0 := (HB.out.cell (p := ⟨b, off + k, none⟩) hbl).trans (hc k hlt)
      rw [HY.out] at c0
      have hmem : y ∈ l := by rw [← HY.out, getElem!_pos l k (by rw [HA.out.len]; omega)]; exact List.getElem_mem _
      have hC2 := HC.out wr y HB.out hmem
      have hany : p y = true → l.any p = true := fun h => List.any_eq_true.2 ⟨y, hmem, h⟩
      have HAN := Lib.hid hany
      subst hb
      clear hc hany hmem
      by_cases hw : p y = false
      · rw [hw] at hC2
        have HW := Lib.hid hw
        clear hw
        go_wp2_with (go_at_call 60; refine hC2.mono ?_; rintro e w2 ⟨rfl, hb2⟩)
        go_roundg (n - (k + 1))
        case measure => omega
        case rel =>
          refine ⟨k + 1, by omega, by omega, by go_num, fun j hj => ?_, HB.out.trans (hb2.mono HB.out.size)⟩
          by_cases e : j = k
          · subst e; rw [HY.out]; exact HW.out
          · exact HK.out j (by omega)
      · have hw : p y = true := by simpa using hw
        rw [hw] at hC2
        have HW := Lib.hid hw
        clear hw
        go_wp2_with (go_at_call 60; refine hC2.mono ?_; rintro e w2 ⟨rfl, hb2⟩)
        go_ret
        exact ⟨k, rfl, by rw [HAN.out HW.out]; simp, by omega, HB.out.trans (hb2.mono HB.out.size)⟩
    · have hk : k = n := by omega
      subst hk
      have hnone : l.any p = false := by
        rw [List.any_eq_false]
        intro x hx
        obtain ⟨j, hj, rfl⟩ := List.getElem_of_mem hx
        have := HK.out j (by rw [← HA.out.len]; exact hj)
        rw [getElem!_pos l j hj] at this
        simp [this]
      have HN := Lib.hid hnone
      clear hnone
      go_wp2
      go_ret
      exact ⟨-1, rfl, by rw [HN.out]; rfl, by omega, HB.out⟩
theorem viaBadAny_any (w : World) (q0 q1 : Nat) (ad : Option Addr) (n c : Nat) (l : List Str) (p : Str → Bool) (hA : At w ad n l) (hbig : n ≤ 4611686018427387904) (hC : ∀ (W : World) (x : Str), Below w.heap.size w W → x ∈ l → Calls Tryz.prog 60 #[.string ⟨x.toArray⟩, .pointer (some ⟨q0, 0, none⟩), .pointer (some ⟨q1, 0, none⟩)] W fun e w' => e = .returned (.bool (p x)) ∧ Below W.heap.size W w') :
    Calls Tryz.prog 29 #[.slice ad n c, .func (.func 60) #[] #[.pointer (some ⟨q0, 0, none⟩), .pointer (some ⟨q1, 0, none⟩)]] w fun e w' => e = .returned (.bool (l.any p)) ∧ Below w.heap.size w w' := by
  have hI := viaBadIx_any w q0 q1 ad n c l p hA hbig hC
  clear hA hC
  go_enter Tryz.func29, Tryz.ntmps29
  go_wp2_with (go_at_call 45; refine hI.mono ?_; rintro e w2 ⟨r, rfl, hr, hr1, hb⟩)
  go_ret
  exact ⟨by first | rfl | (rw [← hr]; rfl), hb⟩

set_option maxHeartbeats 1000000 in
theorem notInIx_any (w : World) (q0 : Nat) (ad : Option Addr) (n c : Nat) (l : List Str) (p : Str → Bool) (hA : At w ad n l) (hbig : n ≤ 4611686018427387904) (hC : ∀ (W : World) (x : Str), Below w.heap.size w W → x ∈ l → Calls Tryz.prog 30 #[.string ⟨x.toArray⟩, .pointer (some ⟨q0, 0, none⟩)] W fun e w' => e = .returned (.bool (p x)) ∧ Below W.heap.size W w') :
    Calls Tryz.prog 45 #[.slice ad n c, .func (.func 30) #[] #[.pointer (some ⟨q0, 0, none⟩)]] w fun e w' => IxAny w w' l p e := by
  have eg : ∀ args w, (callFunc 30 args).run Tryz.prog w = .ok (.enter 30 args) w := enters_of Tryz.func30 (by kernel_rfl) rfl
  have HA := Lib.hid hA
  have HC := Lib.hid hC
  clear hA hC
  go_enter Tryz.func45, Tryz.ntmps45
  go_wp2
  go_loopg [8] n (fun gg s8 wr => ∃ k : Nat, k ≤ n ∧ n - k ≤ gg ∧ s8 = .int .i64 k ∧ Aside (∀ j, j < k → p l[j]! = false) ∧ Aside (Below w.heap.size w wr))
  case atStart => exact ⟨0, by omega, by omega, rfl, fun j hj => absurd hj (Nat.not_lt_zero _), Below.refl _ _⟩
  case round =>
    obtain ⟨k, hk, hgg, rfl, HK, HB⟩ := hrel
    by_cases hlt : k < n
    · have hltz : (k : Int) < (n : Int) := by omega
      obtain ⟨b, off, hb, hbl, hc⟩ := HA.out.cell (by omega)
      obtain ⟨y, HY⟩ : ∃ y, Aside (l[k]! = y) := ⟨_, rfl⟩
      have c0 := (HB.out.cell (p := ⟨b, off + k, none⟩) hbl).trans (hc k hlt)
      rw [HY.out] at c0
      have hmem : y ∈ l := by rw [← HY.out, getElem!_pos l k (by rw [HA.out.len]; omega)]; exact List.getElem_mem _
      have hC2 := HC.out wr y HB.out hmem
      have hany : p y = true → l.any p = true := fun h => List.any_eq_true.2 ⟨y, hmem, h⟩
      have HAN := Lib.hid hany
      subst hb
      clear hc hany hmem
      by_cases hw : p y = false
      · rw [hw] at hC2
        have HW := Lib.hid hw
        clear hw
        go_wp2_with (go_at_call 30; refine hC2.mono ?_; rintro e w2 ⟨rfl, hb2⟩)
        go_roundg (n - (k + 1))
        case measure => omega
        case rel =>
          refine ⟨k + 1, by omega, by omega, by go_num, fun j hj => ?_, HB.out.trans (hb2.mono HB.out.size)⟩
          by_cases e : j = k
          · subst e; rw [HY.out]; exact HW.out
          · exact HK.out j (by omega)
      · have hw : p y = true := by simpa using hw
        rw [hw] at hC2
        have HW := Lib.hid hw
        clear hw
        go_wp2_with (go_at_call 30; refine hC2.mono ?_; rintro e w2 ⟨rfl, hb2⟩)
        go_ret
        exact ⟨k, rfl, by rw [HAN.out HW.out]; simp, by omega, HB.out.trans (hb2.mono HB.out.size)⟩
    · have hk : k = n := by omega
      subst hk
      have hnone : l.any p = false := by
        rw [List.any_eq_false]
        intro x hx
        obtain ⟨j, hj, rfl⟩ := List.getElem_of_mem hx
        have := HK.out j (by rw [← HA.out.len]; exact hj)
        rw [getElem!_pos l j hj] at this
        simp [this]
      have HN := Lib.hid hnone
      clear hnone
      go_wp2
      go_ret
      exact ⟨-1, rfl, by rw [HN.out]; rfl, by omega, HB.out⟩
theorem notInAny_any (w : World) (q0 : Nat) (ad : Option Addr) (n c : Nat) (l : List Str) (p : Str → Bool) (hA : At w ad n l) (hbig : n ≤ 4611686018427387904) (hC : ∀ (W : World) (x : Str), Below w.heap.size w W → x ∈ l → Calls Tryz.prog 30 #[.string ⟨x.toArray⟩, .pointer (some ⟨q0, 0, none⟩)] W fun e w' => e = .returned (.bool (p x)) ∧ Below W.heap.size W w') :
    Calls Tryz.prog 29 #[.slice ad n c, .func (.func 30) #[] #[.pointer (some ⟨q0, 0, none⟩)]] w fun e w' => e = .returned (.bool (l.any p)) ∧ Below w.heap.size w w' := by
  have hI := notInIx_any w q0 ad n c l p hA hbig hC
  clear hA hC
  go_enter Tryz.func29, Tryz.ntmps29
  go_wp2_with (go_at_call 45; refine hI.mono ?_; rintro e w2 ⟨r, rfl, hr, hr1, hb⟩)
  go_ret
  exact ⟨by first | rfl | (rw [← hr]; rfl), hb⟩

set_option maxHeartbeats 1000000 in
theorem notRealmIx_any (w : World) (ad : Option Addr) (n c : Nat) (l : List Str) (p : Str → Bool) (hA : At w ad n l) (hbig : n ≤ 4611686018427387904) (hC : ∀ (W : World) (x : Str), Below w.heap.size w W → x ∈ l → Calls Tryz.prog 51 #[.string ⟨x.toArray⟩] W fun e w' => e = .returned (.bool (p x)) ∧ Below W.heap.size W w') :
    Calls Tryz.prog 45 #[.slice ad n c, .func (.func 51) #[] #[]] w fun e w' => IxAny w w' l p e := by
  have eg : ∀ args w, (callFunc 51 args).run Tryz.prog w = .ok (.enter 51 args) w := enters_of Tryz.func51 (by kernel_rfl) rfl
  have HA := Lib.hid hA
  have HC := Lib.hid hC
  clear hA hC
  go_enter Tryz.func45, Tryz.ntmps45
  go_wp2
  go_loopg [8] n (fun gg s8 wr => ∃ k : Nat, k ≤ n ∧ n - k ≤ gg ∧ s8 = .int .i64 k ∧ Aside (∀ j, j < k → p l[j]! = false) ∧ Aside (Below w.heap.size w wr))
  case atStart => exact ⟨0, by omega, by omega, rfl, fun j hj => absurd hj (Nat.not_lt_zero _), Below.refl _ _⟩
  case round =>
    obtain ⟨k, hk, hgg, rfl, HK, HB⟩ := hrel
    by_cases hlt : k < n
    · have hltz : (k : Int) < (n : Int) := by omega
      obtain ⟨b, off, hb, hbl, hc⟩ := HA.out.cell (by omega)
      obtain ⟨y, HY⟩ : ∃ y, Aside (l[k]! = y) := ⟨_, rfl⟩
      have c0 := (HB.out.cell (p := ⟨b, off + k, none⟩) hbl).trans (hc k hlt)
      rw [HY.out] at c0
      have hmem : y ∈ l := by rw [← HY.out, getElem!_pos l k (by rw [HA.out.len]; omega)]; exact List.getElem_mem _
      have hC2 := HC.out wr y HB.out hmem
      have hany : p y = true → l.any p = true := fun h => List.any_eq_true.2 ⟨y, hmem, h⟩
      have HAN := Lib.hid hany
      subst hb
      clear hc hany hmem
      by_cases hw : p y = false
      · rw [hw] at hC2
        have HW := Lib.hid hw
        clear hw
        go_wp2_with (go_at_call 51; refine hC2.mono ?_; rintro e w2 ⟨rfl, hb2⟩)
        go_roundg (n - (k + 1))
        case measure => omega
        case rel =>
          refine ⟨k + 1, by omega, by omega, by go_num, fun j hj => ?_, HB.out.trans (hb2.mono HB.out.size)⟩
          by_cases e : j = k
          · subst e; rw [HY.out]; exact HW.out
          · exact HK.out j (by omega)
      · have hw : p y = true := by simpa using hw
        rw [hw] at hC2
        have HW := Lib.hid hw
        clear hw
        go_wp2_with (go_at_call 51; refine hC2.mono ?_; rintro e w2 ⟨rfl, hb2⟩)
        go_ret
        exact ⟨k, rfl, by rw [HAN.out HW.out]; simp, by omega, HB.out.trans (hb2.mono HB.out.size)⟩
    · have hk : k = n := by omega
      subst hk
      have hnone : l.any p = false := by
        rw [List.any_eq_false]
        intro x hx
        obtain ⟨j, hj, rfl⟩ := List.getElem_of_mem hx
        have := HK.out j (by rw [← HA.out.len]; exact hj)
        rw [getElem!_pos l j hj] at this
        simp [this]
      have HN := Lib.hid hnone
      clear hnone
      go_wp2
      go_ret
      exact ⟨-1, rfl, by rw [HN.out]; rfl, by omega, HB.out⟩
theorem notRealmAny_any (w : World) (ad : Option Addr) (n c : Nat) (l : List Str) (p : Str → Bool) (hA : At w ad n l) (hbig : n ≤ 4611686018427387904) (hC : ∀ (W : World) (x : Str), Below w.heap.size w W → x ∈ l → Calls Tryz.prog 51 #[.string ⟨x.toArray⟩] W fun e w' => e = .returned (.bool (p x)) ∧ Below W.heap.size W w') :
    Calls Tryz.prog 29 #[.slice ad n c, .func (.func 51) #[] #[]] w fun e w' => e = .returned (.bool (l.any p)) ∧ Below w.heap.size w w' := by
  have hI := notRealmIx_any w ad n c l p hA hbig hC
  clear hA hC
  go_enter Tryz.func29, Tryz.ntmps29
  go_wp2_with (go_at_call 45; refine hI.mono ?_; rintro e w2 ⟨r, rfl, hr, hr1, hb⟩)
  go_ret
  exact ⟨by first | rfl | (rw [← hr]; rfl), hb⟩

set_option maxHeartbeats 1000000 in
theorem linkBadIx_any (w : World) (q0 : Nat) (ad : Option Addr) (n c : Nat) (l : List Link) (p : Link → Bool) (hA : LinksAt w ad n l) (hbig : n ≤ 4611686018427387904) (hC : ∀ (W : World) (x : Link), Below w.heap.size w W → x ∈ l → Calls Tryz.prog 49 #[.agg #[.string ⟨x.1.toArray⟩, .string ⟨x.2.toArray⟩], .pointer (some ⟨q0, 0, none⟩)] W fun e w' => e = .returned (.bool (p x)) ∧ Below W.heap.size W w') :
    Calls Tryz.prog 61 #[.slice ad n c, .func (.func 49) #[] #[.pointer (some ⟨q0, 0, none⟩)]] w fun e w' => IxAny w w' l p e := by
  have eg : ∀ args w, (callFunc 49 args).run Tryz.prog w = .ok (.enter 49 args) w := enters_of Tryz.func49 (by kernel_rfl) rfl
  have HA := Lib.hid hA
  have HC := Lib.hid hC
  clear hA hC
  go_enter Tryz.func61, Tryz.ntmps61
  go_wp2
  go_loopg [8] n (fun gg s8 wr => ∃ k : Nat, k ≤ n ∧ n - k ≤ gg ∧ s8 = .int .i64 k ∧ Aside (∀ j, j < k → p l[j]! = false) ∧ Aside (Below w.heap.size w wr))
  case atStart => exact ⟨0, by omega, by omega, rfl, fun j hj => absurd hj (Nat.not_lt_zero _), Below.refl _ _⟩
  case round =>
    obtain ⟨k, hk, hgg, rfl, HK, HB⟩ := hrel
    by_cases hlt : k < n
    · have hltz : (k : Int) < (n : Int) := by omega
      obtain ⟨b, off, hb, hbl, hc⟩ := HA.out.cell (by omega)
      obtain ⟨y, HY⟩ : ∃ y, Aside (l[k]! = y) := ⟨_, rfl⟩
      have c0 := (HB.out.cell (p := ⟨b, off + k * 2, none⟩) hbl).trans (hc k hlt).1
      have c1 := (HB.out.cell (p := ⟨b, off + k * 2 + 1, none⟩) hbl).trans (hc k hlt).2
      rw [HY.out] at c0 c1
      have hmem : y ∈ l := by rw [← HY.out, getElem!_pos l k (by rw [HA.out.len]; omega)]; exact List.getElem_mem _
      have hC2 := HC.out wr y HB.out hmem
      have hany : p y = true → l.any p = true := fun h => List.any_eq_true.2 ⟨y, hmem, h⟩
      have HAN := Lib.hid hany
      subst hb
      clear hc hany hmem
      by_cases hw : p y = false
      · rw [hw] at hC2
        have HW := Lib.hid hw
        clear hw
        go_wp2_with (go_at_call 49; refine hC2.mono ?_; rintro e w2 ⟨rfl, hb2⟩)
        go_roundg (n - (k + 1))
        case measure => omega
        case rel =>
          refine ⟨k + 1, by omega, by omega, by go_num, fun j hj => ?_, HB.out.trans (hb2.mono HB.out.size)⟩
          by_cases e : j = k
          · subst e; rw [HY.out]; exact HW.out
          · exact HK.out j (by omega)
      · have hw : p y = true := by simpa using hw
        rw [hw] at hC2
        have HW := Lib.hid hw
        clear hw
        go_wp2_with (go_at_call 49; refine hC2.mono ?_; rintro e w2 ⟨rfl, hb2⟩)
        go_ret
        exact ⟨k, rfl, by rw [HAN.out HW.out]; simp, by omega, HB.out.trans (hb2.mono HB.out.size)⟩
    · have hk : k = n := by omega
      subst hk
      have hnone : l.any p = false := by
        rw [List.any_eq_false]
        intro x hx
        obtain ⟨j, hj, rfl⟩ := List.getElem_of_mem hx
        have := HK.out j (by rw [← HA.out.len]; exact hj)
        rw [getElem!_pos l j hj] at this
        simp [this]
      have HN := Lib.hid hnone
      clear hnone
      go_wp2
      go_ret
      exact ⟨-1, rfl, by rw [HN.out]; rfl, by omega, HB.out⟩
theorem linkBadAny_any (w : World) (q0 : Nat) (ad : Option Addr) (n c : Nat) (l : List Link) (p : Link → Bool) (hA : LinksAt w ad n l) (hbig : n ≤ 4611686018427387904) (hC : ∀ (W : World) (x : Link), Below w.heap.size w W → x ∈ l → Calls Tryz.prog 49 #[.agg #[.string ⟨x.1.toArray⟩, .string ⟨x.2.toArray⟩], .pointer (some ⟨q0, 0, none⟩)] W fun e w' => e = .returned (.bool (p x)) ∧ Below W.heap.size W w') :
    Calls Tryz.prog 50 #[.slice ad n c, .func (.func 49) #[] #[.pointer (some ⟨q0, 0, none⟩)]] w fun e w' => e = .returned (.bool (l.any p)) ∧ Below w.heap.size w w' := by
  have hI := linkBadIx_any w q0 ad n c l p hA hbig hC
  clear hA hC
  go_enter Tryz.func50, Tryz.ntmps50
  go_wp2_with (go_at_call 61; refine hI.mono ?_; rintro e w2 ⟨r, rfl, hr, hr1, hb⟩)
  go_ret
  exact ⟨by first | rfl | (rw [← hr]; rfl), hb⟩
end Go.Proofs.YtcleonpckgfdhaaGreatDoor
