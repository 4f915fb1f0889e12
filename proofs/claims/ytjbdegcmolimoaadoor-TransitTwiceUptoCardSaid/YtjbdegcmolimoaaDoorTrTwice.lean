/-
  TransitTwice: the walk of the law.
-/
import Derived.Test.YtjbdegcmolimoaaDoorTrBack
set_option linter.unusedVariables false
set_option linter.unusedSimpArgs false
namespace Go.Proofs.YtjbdegcmolimoaaDoor
open Go Go.RowKit Go.Lib Go.Shelf

/-- The text of the first j realms of l, told twice. -/
def twText (l : List Str) (j : Nat) : Str := joinOn 44 (((l ++ l).take j).map blk)
theorem tw_zero (l : List Str) : twText l 0 = [] := rfl
theorem blk_len (r : Str) : (blk r).length ≤ r.length + 1 := by
  unfold blk
  split
  · simp
  · omega
theorem tw_one {l : List Str} {r : Str} (h : (l ++ l)[0]? = some r) : twText l 1 = blk r := by
  unfold twText
  cases hl : l ++ l with
  | nil => rw [hl] at h; cases h
  | cons x t => rw [hl] at h; simp at h; subst h; simp [joinOn]
theorem tw_next {l : List Str} {j : Nat} {r : Str} (h0 : 0 < j) (h : (l ++ l)[j]? = some r) : twText l (j + 1) = twText l j ++ 44 :: blk r := by
  unfold twText
  obtain ⟨hlt, rfl⟩ := List.getElem?_eq_some_iff.1 h
  rw [← List.take_append_getElem hlt, List.map_append, List.map_cons, List.map_nil, joinOn_snoc]
  intro e
  have := congrArg List.length e
  rw [List.length_map, List.length_take, List.length_nil] at this
  omega
theorem tw_len (l : List Str) (j : Nat) : (twText l j).length ≤ 4 * bulk l := by
  have key : ∀ k : List Str, (joinOn 44 (k.map blk)).length ≤ 2 * bulk k := fun k => by
    induction k with
    | nil => simp [joinOn]
    | cons x r ih =>
      have h1 := blk_len x
      have e : bulk (x :: r) = 1 + x.length + bulk r := by simp [bulk]
      by_cases hr : r = []
      · subst hr
        simp only [List.map_cons, List.map_nil, joinOn]
        omega
      · rw [List.map_cons, joinOn_cons 44 _ _ (by simpa using hr)]
        simp only [List.length_append, List.length_cons]
        omega
  have h1 := key ((l ++ l).take j)
  have h2 := bulk_le (l ++ l) j
  have h3 : bulk (l ++ l) = 2 * bulk l := by simp [bulk]; omega
  unfold twText
  omega
theorem tw_get {l : List Str} {kk i : Nat} (hk : kk < 2) (hi : i < l.length) : (l ++ l)[kk * l.length + i]? = some l[i]! := by
  rw [getElem!_pos l i hi]
  have : kk = 0 ∨ kk = 1 := by omega
  rcases this with rfl | rfl
  · rw [Nat.zero_mul, Nat.zero_add, List.getElem?_append_left hi, List.getElem?_eq_getElem hi]
  · rw [Nat.one_mul, List.getElem?_append_right (by omega), Nat.add_sub_cancel_left, List.getElem?_eq_getElem hi]
theorem tw_nil {l : List Str} (hl : ∀ r ∈ l, isR r = true) {j : Nat} (h0 : 0 < j) (hj : j ≤ l.length + l.length) : twText l j ≠ [] := by
  intro e
  obtain ⟨i, rfl⟩ : ∃ i, j = i + 1 := ⟨j - 1, by omega⟩
  have hlt : i < (l ++ l).length := by simp; omega
  have hr : ∀ r, (l ++ l)[i]? = some r → isR r = true := fun r h => by
    have := List.mem_of_getElem? h
    simp at this
    exact hl r this
  have hg := List.getElem?_eq_getElem hlt
  by_cases h1 : i = 0
  · subst h1
    rw [tw_one hg] at e
    exact blk_nil (hr _ hg) e
  · rw [tw_next (by omega) hg] at e
    simp at e

set_option maxHeartbeats 4000000 in
theorem transitTwice_not (w : World) (ad : Option Addr) (n c : Nat) (l : List Str) (a b : ByteArray) (hA : At w ad n l) (hk : bulk l ≤ 1048576) (ha : a.size < 1048576) (hb : b.size < 1048576)
    (hl : 600 < bulk l ∨ 20 < n ∨ isR a.data.toList = false ∨ isR b.data.toList = false ∨ 100 < a.size + b.size ∨ (onceOf l).2 = false) :
    Calls Tryd.prog 5 #[.slice ad n c, .string a, .string b] w fun e w' => e = .returned (.bool true) ∧ Below w.heap.size w w' := by
  have acc : Below w.heap.size w w := Below.refl _ _
  have HA := Lib.hid hA
  have hn : n ≤ 1048576 := by have := bulk_len l; have := hA.len; omega
  have HSZ := Lib.hid (show ∀ x ∈ l, x.length < 1100000 from fun x hx => by have := bulk_mem hx; omega)
  have sa : a.size < 1100000 := by omega
  have sb : b.size < 1100000 := by omega
  clear hA
  by_cases h6 : 600 < bulk l
  · have hd := Lib.hid (decide_eq_true h6)
    clear hl h6
    go_enter Tryd.func5, Tryd.ntmps5
    go_wp2_with (go_at_call 13; refine (large_any _ _ _ _ l (HA.out.below acc) (by omega)).mono ?_; rintro e w2 ⟨rfl, h2⟩; replace h2 := h2.symm; subst h2; rw [hd.out])
    go_ret
    exact ⟨rfl, acc⟩
  · have hd := Lib.hid (decide_eq_false h6)
    by_cases h20 : 20 < n
    · have h20z : (20 : Int) < (n : Int) := by omega
      clear hl h6 h20
      go_enter Tryd.func5, Tryd.ntmps5
      go_wp2_with (go_at_call 13; refine (large_any _ _ _ _ l (HA.out.below acc) (by omega)).mono ?_; rintro e w2 ⟨rfl, h2⟩; replace h2 := h2.symm; subst h2; rw [hd.out])
      go_ret
      exact ⟨rfl, acc⟩
    · have h20z : ¬ (20 : Int) < (n : Int) := by omega
      cases hx : isR a.data.toList with
      | false =>
        clear hl h6 h20
        go_enter Tryd.func5, Tryd.ntmps5
        go_wp2_with (first
          | (go_at_call 13; refine (large_any _ _ _ _ l (HA.out.below acc) (by omega)).mono ?_; rintro e w2 ⟨rfl, h2⟩; replace h2 := h2.symm; subst h2; rw [hd.out])
          | (go_at_call 14; refine (refis_big _ _ (by assumption)).mono ?_; rintro e w3 ⟨rfl, hb⟩; (first | rw [hx] ); replace acc := acc.trans (hb.mono acc.size); clear hb))
        go_ret
        exact ⟨rfl, acc⟩
      | true =>
        cases hy : isR b.data.toList with
        | false =>
          clear hl h6 h20
          go_enter Tryd.func5, Tryd.ntmps5
          go_wp2_with (first
            | (go_at_call 13; refine (large_any _ _ _ _ l (HA.out.below acc) (by omega)).mono ?_; rintro e w2 ⟨rfl, h2⟩; replace h2 := h2.symm; subst h2; rw [hd.out])
            | (go_at_call 14; refine (refis_big _ _ (by assumption)).mono ?_; rintro e w3 ⟨rfl, hb⟩; (first | rw [hx] | rw [hy] ); replace acc := acc.trans (hb.mono acc.size); clear hb))
          go_ret
          exact ⟨rfl, acc⟩
        | true =>
          by_cases h2 : 100 < a.size + b.size
          · have h2z : (100 : Int) < (a.size : Int) + (b.size : Int) := by omega
            clear hl h6 h20 h2
            go_enter Tryd.func5, Tryd.ntmps5
            go_wp2_with (first
              | (go_at_call 13; refine (large_any _ _ _ _ l (HA.out.below acc) (by omega)).mono ?_; rintro e w2 ⟨rfl, h2⟩; replace h2 := h2.symm; subst h2; rw [hd.out])
              | (go_at_call 14; refine (refis_big _ _ (by assumption)).mono ?_; rintro e w3 ⟨rfl, hb⟩; (first | rw [hx] | rw [hy] ); replace acc := acc.trans (hb.mono acc.size); clear hb))
            go_ret
            exact ⟨rfl, acc⟩
          · have h2z : ¬ (100 : Int) < (a.size : Int) + (b.size : Int) := by omega
            have hon0 : (onceOf l).2 = false := by
              rcases hl with h | h | h | h | h | h
              · exact absurd h h6
              · exact absurd h h20
              · rw [hx] at h; cases h
              · rw [hy] at h; cases h
              · exact absurd h h2
              · exact h
            obtain ⟨m, ok, hon⟩ : ∃ m ok, onceOf l = (m, ok) := ⟨_, _, rfl⟩
            rw [hon] at hon0
            simp only at hon0
            subst hon0
            have HON := Lib.hid hon
            clear hl h6 h20 h2 hon
            go_enter Tryd.func5, Tryd.ntmps5
            go_wp2_with (first
              | (go_at_call 13; refine (large_any _ _ _ _ l (HA.out.below acc) (by omega)).mono ?_; rintro e w2 ⟨rfl, h2⟩; replace h2 := h2.symm; subst h2; rw [hd.out])
              | (go_at_call 14; refine (refis_big _ _ (by assumption)).mono ?_; rintro e w3 ⟨rfl, hb⟩; (first | rw [hx] | rw [hy] ); replace acc := acc.trans (hb.mono acc.size); clear hb)
              | (go_at_call 16; refine (once_any _ _ _ _ l (HA.out.below acc) (by omega) HSZ.out).mono ?_; rintro e w9 ⟨ado, co, rfl, ho, hb⟩; rw [HON.out] at ho ⊢; replace acc := acc.trans (hb.mono acc.size); clear hb))
            go_ret
            exact ⟨rfl, acc⟩

set_option maxHeartbeats 8000000 in
set_option maxRecDepth 100000 in
theorem transitTwice_is (w : World) (hg : Glob w) (ad : Option Addr) (n c : Nat) (l : List Str) (a b : ByteArray) (hA : At w ad n l) (hk : bulk l ≤ 1048576)
    (h6 : ¬ 600 < bulk l) (h20 : ¬ 20 < n) (hx : isR a.data.toList = true) (hy : isR b.data.toList = true) (h2 : ¬ 100 < a.size + b.size) (ho : (onceOf l).2 = true) :
    Calls Tryd.prog 5 #[.slice ad n c, .string a, .string b] w fun e w' => e = .returned (.bool true) ∧ Below w.heap.size w w' := by
  have acc : Below w.heap.size w w := Below.refl _ _
  have HA := Lib.hid hA
  have HL := Lib.hid hA.len
  have HG := Lib.hid hg
  have HSZ := Lib.hid (show ∀ x ∈ l, x.length < 1100000 from fun x hx => by have := bulk_mem hx; omega)
  have sa : a.size < 1100000 := by omega
  have sb : b.size < 1100000 := by omega
  have sa2 : a.size < 90000 := by omega
  have sb2 : b.size < 90000 := by omega
  have h2z : ¬ (100 : Int) < (a.size : Int) + (b.size : Int) := by omega
  have h20z : ¬ (20 : Int) < (n : Int) := by omega
  have hd := Lib.hid (decide_eq_false h6)
  obtain ⟨hlR, hm, hmR, hmN, hm8⟩ := once_ok ho
  obtain ⟨m, ok, hon⟩ : ∃ m ok, onceOf l = (m, ok) := ⟨_, _, rfl⟩
  rw [hon] at ho hm hm8
  simp only at ho hm hm8
  subst ho
  have HON := Lib.hid hon
  have hE := twice hx hy hlR (by rw [← hm]; exact hm8)
  rw [← hm] at hE
  have htw2 : twText l (2 * n) = joinOn 44 ((l ++ l).map blk) := by
    unfold twText
    rw [List.take_of_length_le (by simp [hA.len]; omega)]
  rw [← htw2] at hE
  have HE := Lib.hid hE
  have HLR := Lib.hid hlR
  have HTL := Lib.hid (fun j => tw_len l j)
  have hb6 : bulk l ≤ 600 := by omega
  have hn20 : n ≤ 20 := by omega
  clear hA hon hg h6 h2 h20 hE htw2 hmR hmN hlR hm
  go_enter Tryd.func5, Tryd.ntmps5
  go_wp2_with (first
    | (go_at_call 13; refine (large_any _ _ _ _ l (HA.out.below acc) (by omega)).mono ?_; rintro e w2 ⟨rfl, h2⟩; replace h2 := h2.symm; subst h2; rw [hd.out])
    | (go_at_call 14; refine (refis_big _ _ (by assumption)).mono ?_; rintro e w3 ⟨rfl, hb⟩; (first | rw [hx] | rw [hy] ); replace acc := acc.trans (hb.mono acc.size); clear hb)
    | (go_at_call 16; refine (once_any _ _ _ _ l (HA.out.below acc) (by omega) HSZ.out).mono ?_; rintro e w9 ⟨ado, co, rfl, ho, hb⟩; rw [HON.out] at ho ⊢; replace acc := acc.trans (hb.mono acc.size); clear hb))
  have HO9 := Lib.hid (At.owns ho)
  have ACC9 := Lib.hid acc
  clear ho acc
  go_loopg [9, 10] 2 (fun gg s9 s10 wr => ∃ (kk : Nat) (t : ByteArray), kk ≤ 2 ∧ 2 - kk ≤ gg ∧ s10 = .int .i64 kk ∧ s9 = .string t ∧ Aside (t.data.toList = twText l (kk * n)) ∧ Aside (At wr ado m.length m) ∧ Aside (Below w.heap.size w wr))
  case atStart => exact ⟨0, ⟨#[]⟩, by omega, by omega, rfl, rfl, by rw [Nat.zero_mul]; exact rfl, HO9.out, ACC9.out⟩
  case round =>
    obtain ⟨kk, t, hkk, hgg, rfl, rfl, HT, HO, HB⟩ := hrel
    by_cases hk2 : kk < 2
    · have hk2z : (kk : Int) < 2 := by omega
      go_wp2
      go_loopg [9, 11] n (fun gg s9 s11 wr => ∃ (i : Nat) (t : ByteArray), i ≤ n ∧ n - i ≤ gg ∧ s11 = .int .i64 i ∧ s9 = .string t ∧ Aside (t.data.toList = twText l (kk * n + i)) ∧ Aside (At wr ado m.length m) ∧ Aside (Below w.heap.size w wr))
      case atStart => exact ⟨0, t, by omega, by omega, rfl, rfl, HT.out, HO.out, HB.out⟩
      case round =>
        obtain ⟨i, t, hi, hgg2, rfl, rfl, HT, HO, HB⟩ := hrel
        have st : t.size ≤ 2400 := by have e : t.data.toList.length = t.size := rfl; have := HTL.out (kk * n + i); rw [← HT.out] at this; omega
        by_cases hlt : i < n
        · have hltz : (i : Int) < (n : Int) := by omega
          obtain ⟨bk, off, hbk, hbb, hc⟩ := HA.out.cell (by omega)
          obtain ⟨x, hxx⟩ : ∃ x : ByteArray, x = ⟨l[i]!.toArray⟩ := ⟨_, rfl⟩
          have hxd : x.data.toList = l[i]! := by rw [hxx]
          have kx := (HB.out.cell (p := ⟨bk, off + i, none⟩) hbb).trans (hc i hlt)
          rw [← hxx] at kx
          have hmem : l[i]! ∈ l := by rw [getElem!_pos l i (by rw [HL.out]; omega)]; exact List.getElem_mem _
          have hxR : isR x.data.toList = true := by rw [hxd]; exact HLR.out _ hmem
          have hx37 := isR_short' hxR
          have e37 : x.data.toList.length = x.size := rfl
          have sx : x.size ≤ 37 := by omega
          have hx0 : 0 < x.size := by
            rcases Nat.eq_zero_or_pos x.size with h | h
            · exact absurd (List.length_eq_zero_iff.1 h) (realm_nil hxR)
            · exact h
          have hx0z : (0 : Int) < (x.size : Int) := by omega
          have hget := tw_get (l := l) hk2 (i := i) (by rw [HL.out]; exact hlt)
          rw [HL.out, ← hxd] at hget
          have h47 : ((((x[0]'hx0).toNat : Int) == 47) = true ∧ blk x.data.toList = 32 :: x.data.toList) ∨ ((((x[0]'hx0).toNat : Int) == 47) = false ∧ blk x.data.toList = x.data.toList) := by
            have e0 : x.data.toList.head? = some (x[0]'hx0) := by
              have e : x.data.toList[0]'hx0 = x[0]'hx0 := rfl
              rw [← e, List.head?_eq_getElem?, List.getElem?_eq_getElem]
            rcases isR_cases hxR with hk | hk
            · right
              obtain ⟨b, h1, h2⟩ := realm_head1 hk
              rw [e0] at h1
              simp only [Option.some.injEq] at h1
              refine ⟨?_, by unfold blk; rw [if_neg (by omega)]⟩
              rw [h1]
              simp
              omega
            · left
              have h1 := realm_head2 hk
              rw [e0] at h1
              simp only [Option.some.injEq] at h1
              refine ⟨?_, by unfold blk; rw [if_pos hk]⟩
              rw [h1]
              rfl
          have HGET := Lib.hid hget
          subst hbk
          clear hc hxx hxd hmem hxR hx37 hget
          by_cases hj0 : kk * n + i = 0
          · have ht0 : t.toList = [] := by rw [empty_iff, HT.out, hj0, tw_zero]
            have ht0b : t.toList.isEmpty = true := by simpa using ht0
            have hnx : ∀ z : ByteArray, z.data.toList = t.data.toList ++ blk x.data.toList → z.data.toList = twText l (kk * n + (i + 1)) := fun z hz => by
              have h1 := HGET.out
              rw [hj0] at h1
              rw [hz, HT.out, show kk * n + (i + 1) = kk * n + i + 1 by omega, hj0, tw_one h1]
              rfl
            have HNX := Lib.hid hnx
            clear hnx
            rcases h47 with ⟨h47, hb47⟩ | ⟨h47, hb47⟩
            · have HB47 := Lib.hid hb47
              clear hb47
              go_wp2
              go_roundg (n - (i + 1))
              case measure => omega
              case rel =>
                have := HNX.out ((t ++ (⟨#[32]⟩ : ByteArray)) ++ x) (by rw [cat_data, cat_data, HB47.out]; simp)
                exact ⟨i + 1, _, by omega, by omega, by go_num, rfl, this, HO.out, HB.out⟩
            · have HB47 := Lib.hid hb47
              clear hb47
              go_wp2
              go_roundg (n - (i + 1))
              case measure => omega
              case rel =>
                have := HNX.out (t ++ x) (by rw [cat_data, HB47.out])
                exact ⟨i + 1, _, by omega, by omega, by go_num, rfl, this, HO.out, HB.out⟩
          · have ht0 : ¬ t.toList = [] := by
              rw [empty_iff, HT.out]
              refine tw_nil HLR.out (by omega) ?_
              rw [HL.out]
              have : kk * n ≤ n := by
                have := Nat.mul_le_mul_right n (show kk ≤ 1 by omega)
                omega
              omega
            have ht0b : t.toList.isEmpty = false := by simpa using ht0
            have hnx : ∀ z : ByteArray, z.data.toList = t.data.toList ++ 44 :: blk x.data.toList → z.data.toList = twText l (kk * n + (i + 1)) := fun z hz => by
              rw [hz, HT.out, show kk * n + (i + 1) = kk * n + i + 1 by omega, tw_next (by omega) HGET.out]
            have HNX := Lib.hid hnx
            clear hnx
            rcases h47 with ⟨h47, hb47⟩ | ⟨h47, hb47⟩
            · have HB47 := Lib.hid hb47
              clear hb47
              go_wp2
              go_roundg (n - (i + 1))
              case measure => omega
              case rel =>
                have := HNX.out (((t ++ (⟨#[44]⟩ : ByteArray)) ++ (⟨#[32]⟩ : ByteArray)) ++ x) (by rw [cat_data, cat_data, cat_data, HB47.out]; simp)
                exact ⟨i + 1, _, by omega, by omega, by go_num, rfl, this, HO.out, HB.out⟩
            · have HB47 := Lib.hid hb47
              clear hb47
              go_wp2
              go_roundg (n - (i + 1))
              case measure => omega
              case rel =>
                have := HNX.out ((t ++ (⟨#[44]⟩ : ByteArray)) ++ x) (by rw [cat_data, cat_data, HB47.out]; simp)
                exact ⟨i + 1, _, by omega, by omega, by go_num, rfl, this, HO.out, HB.out⟩
        · have hin : i = n := by omega
          go_wp2
          go_roundg (2 - (kk + 1))
          case measure => omega
          case rel => exact ⟨kk + 1, t, by omega, by omega, by go_num, rfl, by rw [HT.out, hin, show kk * n + n = (kk + 1) * n by rw [Nat.add_mul, Nat.one_mul]]; exact rfl, HO.out, HB.out⟩
    · have hk2' : kk = 2 := by omega
      subst hk2'
      have st : t.size < 70000 := by have e : t.data.toList.length = t.size := rfl; have := HTL.out (2 * n); rw [← HT.out] at this; omega
      have E1 := Lib.hid (show expandOf t.data.toList a.data.toList b.data.toList = (m, 0) by rw [HT.out]; exact HE.out)
      have acc := HB.out
      go_wp2_with (first
        | (go_at_call 17; refine (expand_any _ _ _ _ (HG.out.below acc) (by assumption) (by assumption) (by assumption)).mono ?_; rintro e w10 ⟨ade, ce, rfl, hox, hb⟩; rw [E1.out] at hox ⊢; have HX1 := At.owns hox; have HX2 := HO.out.below hb; clear hox; replace acc := acc.trans (hb.mono acc.size); clear hb)
        | (go_at_call 19; refine (texts_any _ _ _ _ _ _ _ m m HX1 HX2 (by first | assumption | simp | omega) (by first | assumption | simp | omega)).mono ?_; rintro e w8 ⟨rfl, hb⟩; rw [decide_eq_true rfl]; replace acc := acc.trans (hb.mono acc.size); clear hb)
        | (go_at_call 18; refine (known_any _ (HG.out.below acc)).mono ?_; rintro e w7 ⟨rfl, hb⟩; replace acc := acc.trans (hb.mono acc.size); clear hb))
      go_ret
      exact ⟨rfl, acc⟩

theorem transitTwice_walk (ad : Option Addr) (n c : Nat) (l : List Str) (a b : ByteArray) (hk : bulk l ≤ 1048576) (ha : a.size < 1048576) (hb : b.size < 1048576) (w : World) (hg : Glob w) (hA : At w ad n l) :
    Calls Tryd.prog 5 #[.slice ad n c, .string a, .string b] w fun e w' => e = .returned (.bool true) ∧ Below w.heap.size w w' := by
  by_cases h6 : 600 < bulk l
  · exact transitTwice_not w ad n c l a b hA hk ha hb (.inl h6)
  · by_cases h20 : 20 < n
    · exact transitTwice_not w ad n c l a b hA hk ha hb (.inr (.inl h20))
    · cases hx : isR a.data.toList
      · exact transitTwice_not w ad n c l a b hA hk ha hb (.inr (.inr (.inl hx)))
      · cases hy : isR b.data.toList
        · exact transitTwice_not w ad n c l a b hA hk ha hb (.inr (.inr (.inr (.inl hy))))
        · by_cases h2 : 100 < a.size + b.size
          · exact transitTwice_not w ad n c l a b hA hk ha hb (.inr (.inr (.inr (.inr (.inl h2)))))
          · cases ho : (onceOf l).2
            · exact transitTwice_not w ad n c l a b hA hk ha hb (.inr (.inr (.inr (.inr (.inr ho)))))
            · exact transitTwice_is w hg ad n c l a b hA hk h6 h20 hx hy h2 ho
end Go.Proofs.YtjbdegcmolimoaaDoor
