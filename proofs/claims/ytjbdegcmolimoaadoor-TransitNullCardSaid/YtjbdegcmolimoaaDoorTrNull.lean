/-
  TransitNull: the walk of the law.
-/
import Derived.Test.YtjbdegcmolimoaaDoorTrEnds
import Derived.Test.YtjbdegcmolimoaaDoorRefBet
set_option linter.unusedVariables false
set_option linter.unusedSimpArgs false
namespace Go.Proofs.YtjbdegcmolimoaaDoor
open Go Go.RowKit Go.Lib Go.Shelf

theorem once_true {l : List Str} (h : ∀ r ∈ l, isR r = true) (h8 : (addsOf [] l).length ≤ 8) : onceOf l = (addsOf [] l, true) := by
  unfold onceOf
  rw [if_neg (by simpa using h), decide_eq_true h8]

set_option maxHeartbeats 4000000 in
theorem transitNull_not (w : World) (a b r : ByteArray) (k : Int) (ha : a.size ≤ 140737488351232) (hb : b.size ≤ 140737488351232) (hr : r.size ≤ 140737488351232)
    (hl : 600 < bulk [a.data.toList, b.data.toList, r.data.toList] ∨ isR a.data.toList = false ∨ isR b.data.toList = false ∨ isR r.data.toList = false ∨ k < 0 ∨ 2 < k) :
    Calls Tryd.prog 3 #[.string a, .string b, .string r, .int .i64 k] w fun e w' => e = .returned (.bool true) ∧ Below w.heap.size w w' := by
  have acc : Below w.heap.size w w := Below.refl _ _
  have hbk := bulk3 a b r
  have hle : bulk [a.data.toList, b.data.toList, r.data.toList] ≤ 4000000000000000000 := by omega
  by_cases h6 : 600 < bulk [a.data.toList, b.data.toList, r.data.toList]
  · have hd := Lib.hid (decide_eq_true h6)
    clear hbk h6 hl
    go_enter Tryd.func3, Tryd.ntmps3
    go_wp2_with (go_at_call 13; refine (large_any _ _ _ _ [a.data.toList, b.data.toList, r.data.toList] (at_lit _ _ (by simp)) hle).mono ?_; rintro e w2 ⟨rfl, h2⟩; rw [hd.out]; replace acc : Below w.heap.size w w2 := (by rw [h2]; exact acc.alloc acc.size _); clear h2)
    go_ret
    exact ⟨rfl, acc⟩
  · have hd := Lib.hid (decide_eq_false h6)
    have sa : a.size < 90000 := by omega
    have sb : b.size < 90000 := by omega
    have sr : r.size < 90000 := by omega
    clear hbk
    cases hx : isR a.data.toList with
    | false =>
      clear hl h6
      go_enter Tryd.func3, Tryd.ntmps3
      go_wp2_with (first
        | (go_at_call 13; refine (large_any _ _ _ _ [a.data.toList, b.data.toList, r.data.toList] (at_lit _ _ (by simp)) hle).mono ?_; rintro e w2 ⟨rfl, h2⟩; rw [hd.out]; replace acc : Below w.heap.size w w2 := (by rw [h2]; exact acc.alloc acc.size _); clear h2)
        | (go_at_call 14; refine (refis_any _ _ (by assumption)).mono ?_; rintro e w3 ⟨rfl, hb⟩; (first | rw [hx] ); replace acc := acc.trans (hb.mono acc.size); clear hb))
      go_ret
      exact ⟨rfl, acc⟩
    | true =>
      cases hy : isR b.data.toList with
      | false =>
        clear hl h6
        go_enter Tryd.func3, Tryd.ntmps3
        go_wp2_with (first
          | (go_at_call 13; refine (large_any _ _ _ _ [a.data.toList, b.data.toList, r.data.toList] (at_lit _ _ (by simp)) hle).mono ?_; rintro e w2 ⟨rfl, h2⟩; rw [hd.out]; replace acc : Below w.heap.size w w2 := (by rw [h2]; exact acc.alloc acc.size _); clear h2)
          | (go_at_call 14; refine (refis_any _ _ (by assumption)).mono ?_; rintro e w3 ⟨rfl, hb⟩; (first | rw [hx] | rw [hy] ); replace acc := acc.trans (hb.mono acc.size); clear hb))
        go_ret
        exact ⟨rfl, acc⟩
      | true =>
        cases hz : isR r.data.toList with
        | false =>
          clear hl h6
          go_enter Tryd.func3, Tryd.ntmps3
          go_wp2_with (first
            | (go_at_call 13; refine (large_any _ _ _ _ [a.data.toList, b.data.toList, r.data.toList] (at_lit _ _ (by simp)) hle).mono ?_; rintro e w2 ⟨rfl, h2⟩; rw [hd.out]; replace acc : Below w.heap.size w w2 := (by rw [h2]; exact acc.alloc acc.size _); clear h2)
            | (go_at_call 14; refine (refis_any _ _ (by assumption)).mono ?_; rintro e w3 ⟨rfl, hb⟩; (first | rw [hx] | rw [hy] | rw [hz] ); replace acc := acc.trans (hb.mono acc.size); clear hb))
          go_ret
          exact ⟨rfl, acc⟩
        | true =>
          by_cases hk : k < 0
          · clear hl h6
            go_enter Tryd.func3, Tryd.ntmps3
            go_wp2_with (first
              | (go_at_call 13; refine (large_any _ _ _ _ [a.data.toList, b.data.toList, r.data.toList] (at_lit _ _ (by simp)) hle).mono ?_; rintro e w2 ⟨rfl, h2⟩; rw [hd.out]; replace acc : Below w.heap.size w w2 := (by rw [h2]; exact acc.alloc acc.size _); clear h2)
              | (go_at_call 14; refine (refis_any _ _ (by assumption)).mono ?_; rintro e w3 ⟨rfl, hb⟩; (first | rw [hx] | rw [hy] | rw [hz] ); replace acc := acc.trans (hb.mono acc.size); clear hb))
            go_ret
            exact ⟨rfl, acc⟩
          · have hk2 : 2 < k := by
              rcases hl with h | h | h | h | h | h
              · exact absurd h h6
              · rw [hx] at h; cases h
              · rw [hy] at h; cases h
              · rw [hz] at h; cases h
              · exact absurd h hk
              · exact h
            clear hl h6
            go_enter Tryd.func3, Tryd.ntmps3
            go_wp2_with (first
              | (go_at_call 13; refine (large_any _ _ _ _ [a.data.toList, b.data.toList, r.data.toList] (at_lit _ _ (by simp)) hle).mono ?_; rintro e w2 ⟨rfl, h2⟩; rw [hd.out]; replace acc : Below w.heap.size w w2 := (by rw [h2]; exact acc.alloc acc.size _); clear h2)
              | (go_at_call 14; refine (refis_any _ _ (by assumption)).mono ?_; rintro e w3 ⟨rfl, hb⟩; (first | rw [hx] | rw [hy] | rw [hz] ); replace acc := acc.trans (hb.mono acc.size); clear hb))
            go_ret
            exact ⟨rfl, acc⟩

theorem null_facts {W V : List Str} (hV : V = addsOf [] W) (hW : ∀ r ∈ W, isR r = true) (h8 : W.length ≤ 8) : V.length ≤ 8 ∧ onceOf W = (V, true) ∧ (∀ x ∈ W, x.length < 1100000) := by
  have hl := (addsOf_len [] W).2
  rw [← hV] at hl
  simp only [List.length_nil, Nat.zero_add] at hl
  refine ⟨by omega, ?_, fun x hx => ?_⟩
  · rw [hV]
    exact once_true hW (by rw [← hV]; omega)
  · have := isR_short' (hW x hx)
    omega

set_option maxHeartbeats 4000000 in
set_option maxRecDepth 100000 in
theorem transitNull_0 (w : World) (hg : Glob w) (a b r : ByteArray) (h6 : ¬ 600 < bulk [a.data.toList, b.data.toList, r.data.toList]) (hx : isR a.data.toList = true) (hy : isR b.data.toList = true) (hz : isR r.data.toList = true) :
    Calls Tryd.prog 3 #[.string a, .string b, .string r, .int .i64 0] w fun e w' => e = .returned (.bool true) ∧ Below w.heap.size w w' := by
  have acc : Below w.heap.size w w := Below.refl _ _
  have hbk := bulk3 a b r
  have hle : bulk [a.data.toList, b.data.toList, r.data.toList] ≤ 4000000000000000000 := by omega
  have hd := Lib.hid (decide_eq_false h6)
  have sa : a.size < 90000 := by omega
  have sb : b.size < 90000 := by omega
  have sr : r.size < 90000 := by omega
  have hR6 := betOf_six a.data.toList b.data.toList
  obtain ⟨V, hV⟩ : ∃ V, V = addsOf [] (betOf a.data.toList b.data.toList) := ⟨_, rfl⟩
  obtain ⟨hV8, hon, hsz⟩ := null_facts hV bet_isR (by omega)
  have hE := null0 hx hy (by rw [← hV]; exact hV8)
  rw [← hV] at hE
  have E1 := Lib.hid (show expandOf (⟨#[44]⟩ : ByteArray).data.toList a.data.toList b.data.toList = (V, 0) from hE)
  obtain ⟨W, hW⟩ : ∃ W, betOf a.data.toList b.data.toList = W := ⟨_, rfl⟩
  rw [hW] at hon hsz hR6
  have HRR := Lib.hid hW
  have HON := Lib.hid hon
  have HSZ := Lib.hid hsz
  have hr0 : 0 < r.size := by
    rcases Nat.eq_zero_or_pos r.size with h | h
    · exact absurd (List.length_eq_zero_iff.1 h) (realm_nil hz)
    · exact h
  have hr0z : (0 : Int) < (r.size : Int) := by omega
  have HG := Lib.hid hg
  clear hbk h6 hE hW hon hsz hV hg
  cases h47b : (((r[0]'hr0).toNat : Int) == 47) with
  | true =>
    go_enter Tryd.func3, Tryd.ntmps3
    go_wp2_with (first
      | (go_at_call 13; refine (large_any _ _ _ _ [a.data.toList, b.data.toList, r.data.toList] (at_lit _ _ (by simp)) hle).mono ?_; rintro e w2 ⟨rfl, h2⟩; rw [hd.out]; replace acc : Below w.heap.size w w2 := (by rw [h2]; exact acc.alloc acc.size _); clear h2)
      | (go_at_call 14; refine (refis_any _ _ (by assumption)).mono ?_; rintro e w3 ⟨rfl, hb⟩; (first | rw [hx] | rw [hy] | rw [hz] ); replace acc := acc.trans (hb.mono acc.size); clear hb)
      | (go_at_call 15; refine (refbet_any _ _ _ (by assumption) (by assumption)).mono ?_; rintro e w5 ⟨adb, cb, rfl, hob, hb⟩; rw [HRR.out] at hob ⊢; have HW := At.owns hob; clear hob; replace acc := acc.trans (hb.mono acc.size); clear hb)
      | (go_at_call 16; refine (once_any _ _ _ _ W HW (by omega) HSZ.out).mono ?_; rintro e w9 ⟨ado, co, rfl, ho, hb⟩; rw [HON.out] at ho ⊢; have HO := At.owns ho; clear ho HW; replace acc := acc.trans (hb.mono acc.size); clear hb)
      | (go_at_call 17; refine (expand_any _ _ _ _ (HG.out.below acc) (by first | assumption | decide) (by assumption) (by assumption)).mono ?_; rintro e w4 ⟨ade4, ce4, rfl, ho, hb⟩; rw [E1.out] at ho ⊢; have HX1 := At.owns ho; replace HO := HO.below hb; clear ho; replace acc := acc.trans (hb.mono acc.size); clear hb)
      | (go_at_call 19; refine (texts_any _ _ _ _ _ _ _ V V HX1 HO (by first | assumption | simp | omega) (by first | assumption | simp | omega)).mono ?_; rintro e w8 ⟨rfl, hb⟩; rw [decide_eq_true rfl]; replace acc := acc.trans (hb.mono acc.size); clear hb)
      | (go_at_call 18; refine (known_any _ (HG.out.below acc)).mono ?_; rintro e w7 ⟨rfl, hb⟩; replace acc := acc.trans (hb.mono acc.size); clear hb))
    go_ret
    exact ⟨rfl, acc⟩
  | false =>
    go_enter Tryd.func3, Tryd.ntmps3
    go_wp2_with (first
      | (go_at_call 13; refine (large_any _ _ _ _ [a.data.toList, b.data.toList, r.data.toList] (at_lit _ _ (by simp)) hle).mono ?_; rintro e w2 ⟨rfl, h2⟩; rw [hd.out]; replace acc : Below w.heap.size w w2 := (by rw [h2]; exact acc.alloc acc.size _); clear h2)
      | (go_at_call 14; refine (refis_any _ _ (by assumption)).mono ?_; rintro e w3 ⟨rfl, hb⟩; (first | rw [hx] | rw [hy] | rw [hz] ); replace acc := acc.trans (hb.mono acc.size); clear hb)
      | (go_at_call 15; refine (refbet_any _ _ _ (by assumption) (by assumption)).mono ?_; rintro e w5 ⟨adb, cb, rfl, hob, hb⟩; rw [HRR.out] at hob ⊢; have HW := At.owns hob; clear hob; replace acc := acc.trans (hb.mono acc.size); clear hb)
      | (go_at_call 16; refine (once_any _ _ _ _ W HW (by omega) HSZ.out).mono ?_; rintro e w9 ⟨ado, co, rfl, ho, hb⟩; rw [HON.out] at ho ⊢; have HO := At.owns ho; clear ho HW; replace acc := acc.trans (hb.mono acc.size); clear hb)
      | (go_at_call 17; refine (expand_any _ _ _ _ (HG.out.below acc) (by first | assumption | decide) (by assumption) (by assumption)).mono ?_; rintro e w4 ⟨ade4, ce4, rfl, ho, hb⟩; rw [E1.out] at ho ⊢; have HX1 := At.owns ho; replace HO := HO.below hb; clear ho; replace acc := acc.trans (hb.mono acc.size); clear hb)
      | (go_at_call 19; refine (texts_any _ _ _ _ _ _ _ V V HX1 HO (by first | assumption | simp | omega) (by first | assumption | simp | omega)).mono ?_; rintro e w8 ⟨rfl, hb⟩; rw [decide_eq_true rfl]; replace acc := acc.trans (hb.mono acc.size); clear hb)
      | (go_at_call 18; refine (known_any _ (HG.out.below acc)).mono ?_; rintro e w7 ⟨rfl, hb⟩; replace acc := acc.trans (hb.mono acc.size); clear hb))
    go_ret
    exact ⟨rfl, acc⟩

set_option maxHeartbeats 4000000 in
set_option maxRecDepth 100000 in
theorem transitNull_1 (w : World) (hg : Glob w) (a b r : ByteArray) (h6 : ¬ 600 < bulk [a.data.toList, b.data.toList, r.data.toList]) (hx : isR a.data.toList = true) (hy : isR b.data.toList = true) (hz : isR r.data.toList = true) :
    Calls Tryd.prog 3 #[.string a, .string b, .string r, .int .i64 1] w fun e w' => e = .returned (.bool true) ∧ Below w.heap.size w w' := by
  have acc : Below w.heap.size w w := Below.refl _ _
  have hbk := bulk3 a b r
  have hle : bulk [a.data.toList, b.data.toList, r.data.toList] ≤ 4000000000000000000 := by omega
  have hd := Lib.hid (decide_eq_false h6)
  have sa : a.size < 90000 := by omega
  have sb : b.size < 90000 := by omega
  have sr : r.size < 90000 := by omega
  have hr0 : 0 < r.size := by
    rcases Nat.eq_zero_or_pos r.size with h | h
    · exact absurd (List.length_eq_zero_iff.1 h) (realm_nil hz)
    · exact h
  have hr0z : (0 : Int) < (r.size : Int) := by omega
  have HG := Lib.hid hg
  have hR6 := betOf_six a.data.toList r.data.toList
  obtain ⟨V, hV⟩ : ∃ V, V = addsOf [] (betOf a.data.toList r.data.toList ++ [r.data.toList]) := ⟨_, rfl⟩
  have hall : ∀ x ∈ betOf a.data.toList r.data.toList ++ [r.data.toList], isR x = true := by
    intro x hx'
    rw [List.mem_append, List.mem_singleton] at hx'
    rcases hx' with h | rfl
    · exact bet_isR x h
    · exact hz
  obtain ⟨hV8, hon, hsz⟩ := null_facts hV hall (by simp; omega)
  have hE := null1 hx hy hz (by rw [← hV]; exact hV8)
  rw [← hV] at hE
  obtain ⟨t, ht⟩ : ∃ t : ByteArray, (⟨#[44]⟩ : ByteArray) ++ r = t := ⟨_, rfl⟩
  have htd : t.data.toList = 44 :: r.data.toList := by
    rw [← ht, cat_data]
    rfl
  have st : t.size < 70000 := by
    have : t.size = 1 + r.size := by rw [← ht, cat_size]; rfl
    omega
  rw [← htd] at hE
  have E1 := Lib.hid hE
  obtain ⟨R, hR⟩ : ∃ R, betOf a.data.toList r.data.toList = R := ⟨_, rfl⟩
  rw [hR] at hon hsz hR6
  have HRR := Lib.hid hR
  have HON := Lib.hid hon
  have HSZ := Lib.hid hsz
  have tok : True := trivial
  clear hbk h6 hE hR hon hsz hV hall hg htd
  cases h47b : (((r[0]'hr0).toNat : Int) == 47) with
  | true =>
    go_enter Tryd.func3, Tryd.ntmps3
    go_wp2_with (first
      | (go_at_call 13; refine (large_any _ _ _ _ [a.data.toList, b.data.toList, r.data.toList] (at_lit _ _ (by simp)) hle).mono ?_; rintro e w2 ⟨rfl, h2⟩; rw [hd.out]; replace acc : Below w.heap.size w w2 := (by rw [h2]; exact acc.alloc acc.size _); clear h2)
      | (go_at_call 14; refine (refis_any _ _ (by assumption)).mono ?_; rintro e w3 ⟨rfl, hb⟩; (first | rw [hx] | rw [hy] | rw [hz] ); replace acc := acc.trans (hb.mono acc.size); clear hb))
    go_ret
    exact ⟨rfl, acc⟩
  | false =>
    go_enter Tryd.func3, Tryd.ntmps3
    go_wp2_with (first
      | (go_at_call 13; refine (large_any _ _ _ _ [a.data.toList, b.data.toList, r.data.toList] (at_lit _ _ (by simp)) hle).mono ?_; rintro e w2 ⟨rfl, h2⟩; rw [hd.out]; replace acc : Below w.heap.size w w2 := (by rw [h2]; exact acc.alloc acc.size _); clear h2)
      | (go_at_call 14; refine (refis_any _ _ (by assumption)).mono ?_; rintro e w3 ⟨rfl, hb⟩; (first | rw [hx] | rw [hy] | rw [hz] ); replace acc := acc.trans (hb.mono acc.size); clear hb)
      | (go_at_call 15; refine (refbet_any _ _ _ (by assumption) (by assumption)).mono ?_; rintro e w5 ⟨adb, cb, rfl, hob, hb⟩; rw [HRR.out] at hob ⊢; have hs5 := hb.size; have HW := At.owns hob; have acc5 := acc.trans (hb.mono acc.size))
      | (at_builtin; have _t := tok; clear tok; refine wpList_append_texts _ rfl (.tmp 70) (.tmp 73) rfl w.heap.size none 0 0 [] rfl (World.ownsRow_nil _ _ _ _) adb R.length cb R rfl HW (by omega) (by omega) acc5.size ?_; intro ad6 cap6 w6 hown6 hb6; rw [List.nil_append, Nat.zero_add] at hown6; have acc6 := acc5.trans hb6)
      | (at_builtin; refine wpList_append_text _ rfl (.tmp 74) (.tmp 76) rfl w.heap.size ad6 R.length cap6 R rfl (hown6.alloc _) w6.heap.size r.data.toList rfl (heap_alloc_new _ _) (by omega) (Nat.le_trans acc6.size (by simp)) ?_; intro g7 cap7 w7 hown7 hb7; have HW2 := At.owns hown7; replace acc := (acc6.alloc acc6.size _).trans hb7; clear acc6 acc5 hown6 hb6 hown7 hb7)
      | (go_at_call 16; refine (once_any _ _ _ _ (R ++ [r.data.toList]) HW2 (by omega) HSZ.out).mono ?_; rintro e w9 ⟨ado, co, rfl, ho, hb⟩; rw [HON.out] at ho ⊢; have HO := At.owns ho; clear ho HW2; replace acc := acc.trans (hb.mono acc.size); clear hb)
      | (go_at_call 17; refine (expand_any _ _ _ _ (HG.out.below acc) (by assumption) (by assumption) (by assumption)).mono ?_; rintro e w4 ⟨ade4, ce4, rfl, ho, hb⟩; rw [E1.out] at ho ⊢; have HX1 := At.owns ho; replace HO := HO.below hb; clear ho; replace acc := acc.trans (hb.mono acc.size); clear hb)
      | (go_at_call 19; refine (texts_any _ _ _ _ _ _ _ V V HX1 HO (by first | assumption | simp | omega) (by first | assumption | simp | omega)).mono ?_; rintro e w8 ⟨rfl, hb⟩; rw [decide_eq_true rfl]; replace acc := acc.trans (hb.mono acc.size); clear hb)
      | (go_at_call 18; refine (known_any _ (HG.out.below acc)).mono ?_; rintro e w7 ⟨rfl, hb⟩; replace acc := acc.trans (hb.mono acc.size); clear hb))
    go_ret
    exact ⟨rfl, acc⟩

set_option maxHeartbeats 4000000 in
set_option maxRecDepth 100000 in
theorem transitNull_2 (w : World) (hg : Glob w) (a b r : ByteArray) (h6 : ¬ 600 < bulk [a.data.toList, b.data.toList, r.data.toList]) (hx : isR a.data.toList = true) (hy : isR b.data.toList = true) (hz : isR r.data.toList = true) :
    Calls Tryd.prog 3 #[.string a, .string b, .string r, .int .i64 2] w fun e w' => e = .returned (.bool true) ∧ Below w.heap.size w w' := by
  have acc : Below w.heap.size w w := Below.refl _ _
  have hbk := bulk3 a b r
  have hle : bulk [a.data.toList, b.data.toList, r.data.toList] ≤ 4000000000000000000 := by omega
  have hd := Lib.hid (decide_eq_false h6)
  have sa : a.size < 90000 := by omega
  have sb : b.size < 90000 := by omega
  have sr : r.size < 90000 := by omega
  have hr0 : 0 < r.size := by
    rcases Nat.eq_zero_or_pos r.size with h | h
    · exact absurd (List.length_eq_zero_iff.1 h) (realm_nil hz)
    · exact h
  have hr0z : (0 : Int) < (r.size : Int) := by omega
  have HG := Lib.hid hg
  have hR6 := betOf_six r.data.toList b.data.toList
  obtain ⟨V, hV⟩ : ∃ V, V = addsOf [] (r.data.toList :: betOf r.data.toList b.data.toList) := ⟨_, rfl⟩
  have hall : ∀ x ∈ r.data.toList :: betOf r.data.toList b.data.toList, isR x = true := by
    intro x hx'
    rw [List.mem_cons] at hx'
    rcases hx' with rfl | h
    · exact hz
    · exact bet_isR x h
  obtain ⟨hV8, hon, hsz⟩ := null_facts hV hall (by simp; omega)
  have hE := null2 hx hy hz (by rw [← hV]; exact hV8)
  rw [← hV] at hE
  obtain ⟨t, ht⟩ : ∃ t : ByteArray, r ++ (⟨#[44]⟩ : ByteArray) = t := ⟨_, rfl⟩
  have htd : t.data.toList = r.data.toList ++ [44] := by
    rw [← ht, cat_data]
  have st : t.size < 70000 := by
    have : t.size = r.size + 1 := by rw [← ht, cat_size]; rfl
    omega
  rw [← htd] at hE
  have E1 := Lib.hid hE
  obtain ⟨R, hR⟩ : ∃ R, betOf r.data.toList b.data.toList = R := ⟨_, rfl⟩
  rw [hR] at hon hsz hR6
  have HRR := Lib.hid hR
  have HON := Lib.hid hon
  have HSZ := Lib.hid hsz
  have tok : True := trivial
  clear hbk h6 hE hR hon hsz hV hall hg htd
  cases h47b : (((r[0]'hr0).toNat : Int) == 47) with
  | true =>
    go_enter Tryd.func3, Tryd.ntmps3
    go_wp2_with (first
      | (go_at_call 13; refine (large_any _ _ _ _ [a.data.toList, b.data.toList, r.data.toList] (at_lit _ _ (by simp)) hle).mono ?_; rintro e w2 ⟨rfl, h2⟩; rw [hd.out]; replace acc : Below w.heap.size w w2 := (by rw [h2]; exact acc.alloc acc.size _); clear h2)
      | (go_at_call 14; refine (refis_any _ _ (by assumption)).mono ?_; rintro e w3 ⟨rfl, hb⟩; (first | rw [hx] | rw [hy] | rw [hz] ); replace acc := acc.trans (hb.mono acc.size); clear hb))
    go_ret
    exact ⟨rfl, acc⟩
  | false =>
    go_enter Tryd.func3, Tryd.ntmps3
    go_wp2_with (first
      | (go_at_call 13; refine (large_any _ _ _ _ [a.data.toList, b.data.toList, r.data.toList] (at_lit _ _ (by simp)) hle).mono ?_; rintro e w2 ⟨rfl, h2⟩; rw [hd.out]; replace acc : Below w.heap.size w w2 := (by rw [h2]; exact acc.alloc acc.size _); clear h2)
      | (go_at_call 14; refine (refis_any _ _ (by assumption)).mono ?_; rintro e w3 ⟨rfl, hb⟩; (first | rw [hx] | rw [hy] | rw [hz] ); replace acc := acc.trans (hb.mono acc.size); clear hb)
      | (at_builtin; have _t := tok; clear tok; refine wpList_append_text _ rfl (.tmp 53) (.tmp 55) rfl w.heap.size none 0 0 [] rfl (World.ownsRow_nil _ _ _ _) w3.heap.size r.data.toList rfl (heap_alloc_new _ _) (by omega) (Nat.le_trans acc.size (by simp)) ?_; intro g6 cap6 w6 hown6 hb6; replace acc := (acc.alloc acc.size _).trans hb6)
      | (go_at_call 15; refine (refbet_any _ _ _ (by assumption) (by assumption)).mono ?_; rintro e w5 ⟨adb, cb, rfl, hob, hb⟩; rw [HRR.out] at hob ⊢; have HW := At.owns hob; have hown5 := own_below hown6 hb; replace acc := acc.trans (hb.mono acc.size); clear hb)
      | (at_builtin; refine wpList_append_texts _ rfl (.tmp 56) (.tmp 59) rfl w.heap.size _ 1 cap6 [r.data.toList] rfl hown5 adb R.length cb R rfl HW (by omega) (by omega) acc.size ?_; intro ad7 cap7 w7 hown7 hb7; rw [Nat.add_comm] at hown7 ⊢; have HW2 := At.owns hown7; replace acc := acc.trans hb7; clear hown5 hown6 hown7 hb6 hb7)
      | (go_at_call 16; refine (once_any _ _ _ _ (r.data.toList :: R) HW2 (by omega) HSZ.out).mono ?_; rintro e w9 ⟨ado, co, rfl, ho, hb⟩; rw [HON.out] at ho ⊢; have HO := At.owns ho; clear ho HW2; replace acc := acc.trans (hb.mono acc.size); clear hb)
      | (go_at_call 17; refine (expand_any _ _ _ _ (HG.out.below acc) (by assumption) (by assumption) (by assumption)).mono ?_; rintro e w4 ⟨ade4, ce4, rfl, ho, hb⟩; rw [E1.out] at ho ⊢; have HX1 := At.owns ho; replace HO := HO.below hb; clear ho; replace acc := acc.trans (hb.mono acc.size); clear hb)
      | (go_at_call 19; refine (texts_any _ _ _ _ _ _ _ V V HX1 HO (by first | assumption | simp | omega) (by first | assumption | simp | omega)).mono ?_; rintro e w8 ⟨rfl, hb⟩; rw [decide_eq_true rfl]; replace acc := acc.trans (hb.mono acc.size); clear hb)
      | (go_at_call 18; refine (known_any _ (HG.out.below acc)).mono ?_; rintro e w7 ⟨rfl, hb⟩; replace acc := acc.trans (hb.mono acc.size); clear hb))
    go_ret
    exact ⟨rfl, acc⟩

theorem transitNull_walk (a b r : ByteArray) (k : Int) (ha : a.size ≤ 140737488351232) (hb : b.size ≤ 140737488351232) (hr : r.size ≤ 140737488351232) (_ : (Lit.int .i64 k).wf = true) (w : World) (hg : Glob w) :
    Calls Tryd.prog 3 #[.string a, .string b, .string r, .int .i64 k] w fun e w' => e = .returned (.bool true) ∧ Below w.heap.size w w' := by
  by_cases h6 : 600 < bulk [a.data.toList, b.data.toList, r.data.toList]
  · exact transitNull_not w a b r k ha hb hr (.inl h6)
  · cases hx : isR a.data.toList
    · exact transitNull_not w a b r k ha hb hr (.inr (.inl hx))
    · cases hy : isR b.data.toList
      · exact transitNull_not w a b r k ha hb hr (.inr (.inr (.inl hy)))
      · cases hz : isR r.data.toList
        · exact transitNull_not w a b r k ha hb hr (.inr (.inr (.inr (.inl hz))))
        · by_cases h0 : k < 0
          · exact transitNull_not w a b r k ha hb hr (.inr (.inr (.inr (.inr (.inl h0)))))
          · by_cases h2 : 2 < k
            · exact transitNull_not w a b r k ha hb hr (.inr (.inr (.inr (.inr (.inr h2)))))
            · have hk : k = 0 ∨ k = 1 ∨ k = 2 := by omega
              rcases hk with rfl | rfl | rfl
              · exact transitNull_0 w hg a b r h6 hx hy hz
              · exact transitNull_1 w hg a b r h6 hx hy hz
              · exact transitNull_2 w hg a b r h6 hx hy hz
end Go.Proofs.YtjbdegcmolimoaaDoor
