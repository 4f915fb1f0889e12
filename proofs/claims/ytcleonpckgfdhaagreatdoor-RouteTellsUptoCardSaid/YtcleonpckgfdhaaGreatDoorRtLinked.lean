/-
  slices.Contains at links; route.Linked; legateref7.Linked, Place.
-/
import Derived.Test.YtcleonpckgfdhaaGreatDoorRtMem
set_option linter.unusedVariables false
set_option linter.unusedSimpArgs false
set_option maxRecDepth 100000
namespace Go.Proofs.YtcleonpckgfdhaaGreatDoor
open Go Go.RowKit Go.Lib Go.Shelf

def linkv (x : Link) : List Value := [.string ⟨x.1.toArray⟩, .string ⟨x.2.toArray⟩]
theorem eqLink : EqlAt Tryz.prog 39 (fun x => .agg (linkv x).toArray) (fun x y => decide (x = y)) := by
  refine ⟨fun x y w => ?_, GuardAt.agg _ (by kernel_rfl)⟩
  simp only [linkv]
  rw [run_eql_struct, run_link_eq]
  rfl

theorem LinksAt.cells {w : World} {ad : Option Addr} {n : Nat} {L : List Link} (h : LinksAt w ad n L) (hn : 0 < n) : ∃ b off, ad = some ⟨b, off, none⟩ ∧ b < w.heap.size ∧ ∀ j, j < L.length → ∀ i v, (linkv L[j]!)[i]? = some v → w.cell? ⟨b, off + j * 2 + i, none⟩ = some v := by
  obtain ⟨b, off, e, hlt, hc⟩ := h.cell hn
  refine ⟨b, off, e, hlt, fun j hj i v hi => ?_⟩
  rw [h.len] at hj
  have h1 := hc j hj
  unfold linkv at hi
  generalize L[j]! = y at hi h1
  match i, hi with
  | 0, hi => simp at hi; rw [← hi]; exact h1.1
  | 1, hi => simp at hi; rw [← hi]; exact h1.2
  | i + 2, hi => simp at hi

theorem containsLink_any (w : World) (ad : Option Addr) (n c : Nat) (L : List Link) (x y : ByteArray) (hL : LinksAt w ad n L) (hn : n ≤ 9223372036854775807) :
    Calls Tryz.prog 26 #[.slice ad n c, .agg #[.string x, .string y]] w fun e w' => e = .returned (.bool (decide ((x.data.toList, y.data.toList) ∈ L))) ∧ Below w.heap.size w w' := by
  rcases Nat.eq_zero_or_pos n with h0 | h0
  · subst h0
    have hl : L = [] := List.length_eq_zero_iff.1 hL.len
    subst hl
    have hI : ∀ W, Calls Tryz.prog 38 #[.slice ad 0 c, .agg #[.string x, .string y]] W fun e w' => e = .returned (.int .i64 (-1)) ∧ Below W.heap.size W w' := fun W => by
      go_enter Tryz.func38, Tryz.ntmps38
      go_wp2
      go_loopg [8] 0 (fun gg s8 wr => s8 = .int .i64 0 ∧ Aside (Below W.heap.size W wr))
      case atStart => exact ⟨rfl, (Below.refl _ _).alloc (Nat.le_refl _) _⟩
      case round =>
        obtain ⟨rfl, HB⟩ := hrel
        go_wp2
        go_ret
        exact ⟨rfl, HB.out⟩
    go_enter Tryz.func26, Tryz.ntmps26
    go_wp2_with (go_at_call 38; refine (hI _).mono ?_; rintro e w2 ⟨rfl, hb⟩)
    go_ret
    exact ⟨by simp, ((Below.refl _ _).alloc (Nat.le_refl _) _).trans (hb.mono (by simp))⟩
  · obtain ⟨b, off, rfl, hlt, hc⟩ := hL.cells h0
    have hl := hL.len
    have h := AnyQ.slices_Contains Tryz.laysContLink 2 Tryz.isAgg39 Tryz.sizeOf39 linkv (fun _ => rfl) _ eqLink b off n c L (x.data.toList, y.data.toList) w (by omega) hn hc
    refine h.mono ?_
    rintro e w' ⟨rfl, hb⟩
    refine ⟨?_, hb⟩
    congr 3
    rw [show L.take n = L by rw [← hl, List.take_length], Bool.eq_iff_iff]
    simp

theorem Tt.link {w : World} {v : Tv} {T : Topo} (h : Tt w v T) (q : Nat) : LinksAt w v.al v.nl T.links := h.l

theorem linked_any (w : World) (v : Tv) (T : Topo) (a b : ByteArray) (hT : Tt w v T) (hn : v.nl ≤ 9223372036854775807) :
    Calls Tryz.prog 11 #[.agg #[.slice v.ar v.nr v.cr, .slice v.al v.nl v.cl, .slice v.ap v.np v.cp], .string a, .string b] w fun e w' => e = .returned (.bool (linkedOf T a.data.toList b.data.toList)) ∧ Below w.heap.size w w' := by
  have hC := fun W hL => containsLink_any W v.al v.nl v.cl T.links a b hL hn
  have HL := Lib.hid hT.l
  have acc : Below w.heap.size w (w.alloc (.cells #[.slice v.ar v.nr v.cr, .slice v.al v.nl v.cl, .slice v.ap v.np v.cp] 26)) := (Below.refl _ _).alloc (Nat.le_refl _) _
  unfold linkedOf
  obtain ⟨R, hR⟩ : ∃ R, R = decide ((a.data.toList, b.data.toList) ∈ T.links) := ⟨_, rfl⟩
  rw [← hR] at hC ⊢
  clear hR hT hn
  go_enter Tryz.func11, Tryz.ntmps11
  go_wp2_with (go_at_call 26; refine (hC _ (HL.out.below acc)).mono ?_; rintro e w2 ⟨rfl, hb⟩)
  go_ret
  exact ⟨rfl, acc.trans (hb.mono acc.size)⟩

/-- Where a text stands in a row; -1. -/
def placeOf (l : List Str) (s : Str) : Int := match l.findIdx? fun x => decide (x = s) with
  | some i => (i : Int)
  | none => -1
theorem place_at {l : List Str} {s : Str} {k : Nat} (hk : k < l.length) (h : l[k]! = s) (h2 : ∀ j, j < k → l[j]! ≠ s) : placeOf l s = (k : Int) := by
  unfold placeOf
  have : l.findIdx? (fun x => decide (x = s)) = some k := by
    rw [List.findIdx?_eq_some_iff_getElem]
    refine ⟨hk, by rw [getElem!_pos l k hk] at h; simpa using h, fun j hj => ?_⟩
    have := h2 j hj
    rw [getElem!_pos l j (by omega)] at this
    simpa using this
  rw [this]
theorem place_none {l : List Str} {s : Str} (h : s ∉ l) : placeOf l s = -1 := by
  unfold placeOf
  have : l.findIdx? (fun x => decide (x = s)) = none := by
    rw [List.findIdx?_eq_none_iff]
    intro x hx
    rw [decide_eq_false_iff_not]
    intro e
    exact h (e ▸ hx)
  rw [this]
theorem place_in {l : List Str} {s : Str} (h : s ∈ l) : ∃ k : Nat, placeOf l s = (k : Int) ∧ k < l.length ∧ l[k]! = s := by
  unfold placeOf
  cases hf : l.findIdx? fun x => decide (x = s) with
  | none =>
    rw [List.findIdx?_eq_none_iff] at hf
    have := hf s h
    simp at this
  | some k =>
    rw [List.findIdx?_eq_some_iff_getElem] at hf
    obtain ⟨hk, h1, _⟩ := hf
    exact ⟨k, rfl, hk, by rw [getElem!_pos l k hk]; simpa using h1⟩
theorem place_neg (l : List Str) (s : Str) : decide (placeOf l s < 0) = !decide (s ∈ l) := by
  by_cases h : s ∈ l
  · obtain ⟨k, e, _⟩ := place_in h
    rw [e]
    simp [h]
  · rw [place_none h]
    simp [h]
theorem place_pos (l : List Str) (s : Str) : decide (0 ≤ placeOf l s) = decide (s ∈ l) := by
  have := place_neg l s
  by_cases h : s ∈ l <;> simp [h] at this ⊢ <;> omega

set_option maxHeartbeats 1000000 in
theorem place_any (w : World) (ad : Option Addr) (n c : Nat) (l : List Str) (s : ByteArray) (hA : At w ad n l) (hn : n ≤ 4611686018427387904) :
    Calls Tryz.prog 20 #[.slice ad n c, .string s] w fun e w' => e = .returned (.int .i64 (placeOf l s.data.toList)) ∧ ∃ q, w' = w.drewN q := by
  obtain ⟨R, hR⟩ : ∃ R, R = placeOf l s.data.toList := ⟨_, rfl⟩
  rw [← hR]
  have HR := Lib.hid hR
  clear hR
  have HA := Lib.hid hA
  clear hA
  go_enter Tryz.func20, Tryz.ntmps20
  go_wp2
  go_loopg [5] n (fun gg s5 wr => ∃ k : Nat, k ≤ n ∧ n - k ≤ gg ∧ s5 = .int .i64 k ∧ Aside (∀ j, j < k → l[j]! ≠ s.data.toList) ∧ Aside (∃ q, wr = w.drewN q))
  case atStart => exact ⟨0, by omega, by omega, rfl, fun j hj => absurd hj (Nat.not_lt_zero _), 0, rfl⟩
  case round =>
    obtain ⟨k, hk, hgg, rfl, HK, HQ⟩ := hrel
    by_cases hlt : k < n
    · have hltz : (k : Int) < (n : Int) := by omega
      obtain ⟨b, off, hb, hbl, hc⟩ := HA.out.cell (by omega)
      obtain ⟨x, hx⟩ : ∃ x : ByteArray, x = ⟨l[k]!.toArray⟩ := ⟨_, rfl⟩
      have hxd : x.data.toList = l[k]! := by rw [hx]
      have c0 : wr.cell? ⟨b, off + k, none⟩ = some (.string x) := by obtain ⟨q, rfl⟩ := HQ.out; rw [hx]; exact hc k hlt
      have hkk : (x.toList == s.toList) = decide (l[k]! = s.data.toList) := by
        rw [ByteArray.toList_eq, ByteArray.toList_eq, hxd, Bool.eq_iff_iff]
        simp
      subst hb
      clear hc hx
      by_cases hw : l[k]! = s.data.toList
      · rw [decide_eq_true hw] at hkk
        have hr : R = (k : Int) := by rw [HR.out]; exact place_at (by rw [HA.out.len]; exact hlt) hw HK.out
        subst hr
        clear hw hxd
        go_wp2
        go_ret
        exact ⟨rfl, HQ.out⟩
      · rw [decide_eq_false hw] at hkk
        have HW := Lib.hid hw
        clear hw hxd
        go_wp2
        go_roundg (n - (k + 1))
        case measure => omega
        case rel =>
          refine ⟨k + 1, by omega, by omega, by go_num, fun j hj => ?_, HQ.out⟩
          by_cases e : j = k
          · subst e; exact HW.out
          · exact HK.out j (by omega)
    · have hk : k = n := by omega
      subst hk
      have hnone : s.data.toList ∉ l := by
        intro hm
        obtain ⟨j, hj, e⟩ := List.getElem_of_mem hm
        have := HK.out j (by rw [← HA.out.len]; exact hj)
        rw [getElem!_pos l j hj] at this
        exact this e
      have hr : R = -1 := by rw [HR.out]; exact place_none hnone
      subst hr
      clear hnone
      go_wp2
      go_ret
      exact ⟨rfl, HQ.out⟩

set_option maxHeartbeats 1000000 in
theorem refLinked_any (w : World) (v : Tv) (T : Topo) (a b : ByteArray) (hT : Tt w v T) (hn : v.nl ≤ 4611686018427387904) :
    Calls Tryz.prog 12 #[.agg #[.slice v.ar v.nr v.cr, .slice v.al v.nl v.cl, .slice v.ap v.np v.cp], .string a, .string b] w fun e w' => e = .returned (.bool (linkedOf T a.data.toList b.data.toList)) ∧ Below w.heap.size w w' := by
  have HL := Lib.hid hT.l
  have hE := fun c d w => run_link_eq c d a b w
  unfold linkedOf
  obtain ⟨R, hR⟩ : ∃ R, R = decide ((a.data.toList, b.data.toList) ∈ T.links) := ⟨_, rfl⟩
  rw [← hR]
  have HR := Lib.hid hR
  have hG : Tryz.prog.eqGuardType Tryz.prog.depth 39 = false := by kernel_rfl
  clear hR hT
  go_enter Tryz.func12, Tryz.ntmps12
  go_wp2
  obtain ⟨w1, hw1⟩ : ∃ w1, w1 = w.alloc (.cells #[.slice v.ar v.nr v.cr, .slice v.al v.nl v.cl, .slice v.ap v.np v.cp] 26) := ⟨_, rfl⟩
  rw [← hw1]
  have acc : Below w.heap.size w w1 := by rw [hw1]; exact (Below.refl _ _).alloc (Nat.le_refl _) _
  have b0 : w1.cell? ⟨w.heap.size, 1, none⟩ = some (.slice v.al v.nl v.cl) := by rw [hw1]; simp [World.cell?_alloc_at]
  have HW1 := Lib.hid hw1
  have ACC := Lib.hid acc
  clear hw1 acc
  go_loopg [7] v.nl (fun gg s7 wr => ∃ k : Nat, k ≤ v.nl ∧ v.nl - k ≤ gg ∧ s7 = .int .i64 k ∧ Aside (∀ j, j < k → T.links[j]! ≠ (a.data.toList, b.data.toList)) ∧ Aside (∃ q, wr = w1.drewN q))
  case atStart => exact ⟨0, by omega, by omega, rfl, fun j hj => absurd hj (Nat.not_lt_zero _), 0, rfl⟩
  case round =>
    obtain ⟨k, hk, hgg, rfl, HK, HQ⟩ := hrel
    have acc : Below w.heap.size w wr := by obtain ⟨q, rfl⟩ := HQ.out; exact below_drewN ACC.out _
    have ACC2 := Lib.hid acc
    have b1 : wr.cell? ⟨w.heap.size, 1, none⟩ = some (.slice v.al v.nl v.cl) := by obtain ⟨q, rfl⟩ := HQ.out; exact b0
    clear acc
    by_cases hlt : k < v.nl
    · have hltz : (k : Int) < (v.nl : Int) := by omega
      obtain ⟨bb, off, hb, hbl, hc⟩ := HL.out.cell (by omega)
      obtain ⟨x, hx⟩ : ∃ x : ByteArray, x = ⟨T.links[k]!.1.toArray⟩ := ⟨_, rfl⟩
      obtain ⟨y, hy⟩ : ∃ y : ByteArray, y = ⟨T.links[k]!.2.toArray⟩ := ⟨_, rfl⟩
      have c0 : wr.cell? ⟨bb, off + k * 2, none⟩ = some (.string x) := by rw [hx]; exact (ACC2.out.cell (p := ⟨bb, off + k * 2, none⟩) hbl).trans (hc k hlt).1
      have c1 : wr.cell? ⟨bb, off + k * 2 + 1, none⟩ = some (.string y) := by rw [hy]; exact (ACC2.out.cell (p := ⟨bb, off + k * 2 + 1, none⟩) hbl).trans (hc k hlt).2
      have hxy : (x.data.toList, y.data.toList) = T.links[k]! := by rw [hx, hy]
      have hE2 := hE x y
      rw [hxy] at hE2
      have HXY := Lib.hid hxy
      clear hc hx hy hxy
      by_cases hw : T.links[k]! = (a.data.toList, b.data.toList)
      · rw [decide_eq_true hw] at hE2
        have hin : R = true := by rw [HR.out, ← hw, getElem!_pos T.links k (by rw [HL.out.len]; omega)]; exact decide_eq_true (List.getElem_mem _)
        subst hin
        clear hw hE
        go_wp2
        go_ret
        exact ⟨rfl, ACC2.out⟩
      · rw [decide_eq_false hw] at hE2
        have HW := Lib.hid hw
        clear hw hE
        go_wp2
        go_roundg (v.nl - (k + 1))
        case measure => omega
        case rel =>
          refine ⟨k + 1, by omega, by omega, by go_num, fun j hj => ?_, HQ.out⟩
          by_cases e : j = k
          · subst e; exact HW.out
          · exact HK.out j (by omega)
    · have hk : k = v.nl := by omega
      subst hk
      have hnone : R = false := by
        rw [HR.out]
        refine decide_eq_false fun hm => ?_
        obtain ⟨j, hj, e⟩ := List.getElem_of_mem hm
        have := HK.out j (by rw [← HL.out.len]; exact hj)
        rw [getElem!_pos T.links j hj] at this
        exact this e
      subst hnone
      go_wp2
      go_ret
      exact ⟨rfl, ACC2.out⟩
end Go.Proofs.YtcleonpckgfdhaaGreatDoor
