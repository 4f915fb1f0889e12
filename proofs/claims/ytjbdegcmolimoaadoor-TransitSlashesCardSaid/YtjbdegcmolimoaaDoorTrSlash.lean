/-
  TransitSlashes: the walk of the law.
-/
import Derived.Test.YtjbdegcmolimoaaDoorTrDots
set_option linter.unusedVariables false
set_option linter.unusedSimpArgs false
namespace Go.Proofs.YtjbdegcmolimoaaDoor
open Go Go.RowKit Go.Lib Go.Shelf

theorem transitSlashes_not (w : World) (p q : ByteArray) (hp : p.size ≤ 140737488351232) (hq : q.size ≤ 140737488351232) (hl : 100 < p.size + q.size ∨ kindOf p.data.toList ≠ 2 ∨ kindOf q.data.toList ≠ 2 ∨ p.data.toList = q.data.toList) :
    Calls Tryd.prog 4 #[.string p, .string q] w fun e w' => e = .returned (.bool true) ∧ Below w.heap.size w w' := by
  have acc : Below w.heap.size w w := Below.refl _ _
  by_cases h : 100 < p.size + q.size
  · have h1 : (100 : Int) < (p.size : Int) + (q.size : Int) := by omega
    clear hl h
    go_enter Tryd.func4, Tryd.ntmps4
    go_wp2
    go_ret
    exact ⟨rfl, acc⟩
  · have h1 : ¬ (100 : Int) < (p.size : Int) + (q.size : Int) := by omega
    have sp : p.size < 90000 := by omega
    have sq : q.size < 90000 := by omega
    rcases kind_or (r := p) 2 with hk | ⟨K, hk, hkz, hkb⟩
    · rcases kind_or (r := q) 2 with hj | ⟨J, hj, hjz, hjb⟩
      · have he : p.data.toList = q.data.toList := by
          rcases hl with hl | hl | hl | hl
          · exact absurd hl h
          · exact absurd hk hl
          · exact absurd hj hl
          · exact hl
        have hq := eq_text p q
        rw [decide_eq_true he] at hq
        clear hl h he
        go_enter Tryd.func4, Tryd.ntmps4
        go_wp2_with (go_at_call 20; refine (refkind_any _ _ (by assumption)).mono ?_; rintro e w2 ⟨rfl, hb⟩; (first | rw [hk] | rw [hj]); replace acc := acc.trans (hb.mono acc.size); clear hb)
        go_ret
        exact ⟨rfl, acc⟩
      · clear hl h
        go_enter Tryd.func4, Tryd.ntmps4
        go_wp2_with (go_at_call 20; refine (refkind_any _ _ (by assumption)).mono ?_; rintro e w2 ⟨rfl, hb⟩; (first | rw [hk] | rw [hj]); replace acc := acc.trans (hb.mono acc.size); clear hb)
        go_ret
        exact ⟨rfl, acc⟩
    · clear hl h
      go_enter Tryd.func4, Tryd.ntmps4
      go_wp2_with (go_at_call 20; refine (refkind_any _ _ (by assumption)).mono ?_; rintro e w2 ⟨rfl, hb⟩; rw [hk]; replace acc := acc.trans (hb.mono acc.size); clear hb)
      go_ret
      exact ⟨rfl, acc⟩

set_option maxHeartbeats 4000000 in
set_option maxRecDepth 100000 in
theorem transitSlashes_is (w : World) (hg : Glob w) (p q : ByteArray) (hl : ¬ 100 < p.size + q.size) (hk : kindOf p.data.toList = 2) (hj : kindOf q.data.toList = 2) (hne : p.data.toList ≠ q.data.toList) :
    Calls Tryd.prog 4 #[.string p, .string q] w fun e w' => e = .returned (.bool true) ∧ Below w.heap.size w w' := by
  have acc : Below w.heap.size w w := Below.refl _ _
  have h1 : ¬ (100 : Int) < (p.size : Int) + (q.size : Int) := by omega
  have sp : p.size < 90000 := by omega
  have sq : q.size < 90000 := by omega
  have hqpq := eq_text p q
  rw [decide_eq_false hne] at hqpq
  obtain ⟨d1, d2, d3, d4⟩ := slashes hk hj hne
  obtain ⟨r, hr⟩ : ∃ r : ByteArray, p ++ q = r := ⟨_, rfl⟩
  have hrd : r.data.toList = p.data.toList ++ q.data.toList := by rw [← hr, cat_data]
  have srr : r.size = p.size + q.size := by rw [← hr, cat_size]
  have sr : r.size < 90000 := by omega
  obtain ⟨t1, ht1⟩ : ∃ t : ByteArray, (p ++ (⟨#[44]⟩ : ByteArray)) ++ q = t := ⟨_, rfl⟩
  have htd1 : t1.data.toList = p.data.toList ++ 44 :: q.data.toList := by
    rw [← ht1, cat_data, cat_data]
    simp
  have st1 : t1.size < 70000 := by
    have : t1.size = p.size + 1 + q.size := by rw [← ht1, cat_size, cat_size]; rfl
    omega
  obtain ⟨t2, ht2⟩ : ∃ t : ByteArray, (p ++ (⟨#[44, 32]⟩ : ByteArray)) ++ q = t := ⟨_, rfl⟩
  have htd2 : t2.data.toList = p.data.toList ++ 44 :: 32 :: q.data.toList := by
    rw [← ht2, cat_data, cat_data]
    simp
  have st2 : t2.size < 70000 := by
    have : t2.size = p.size + 2 + q.size := by rw [← ht2, cat_size, cat_size]; rfl
    omega
  obtain ⟨t3, ht3⟩ : ∃ t : ByteArray, (⟨#[69, 68, 85, 44]⟩ : ByteArray) ++ q = t := ⟨_, rfl⟩
  have htd3 : t3.data.toList = [69, 68, 85] ++ 44 :: q.data.toList := by
    rw [← ht3, cat_data]
    rfl
  have st3 : t3.size < 70000 := by
    have : t3.size = 4 + q.size := by rw [← ht3, cat_size]; rfl
    omega
  rw [← hrd, ← htd1] at d1 d2
  rw [← htd2] at d3
  rw [← htd3] at d4
  have HG := Lib.hid hg
  have E2 := Lib.hid (show expandOf t2.data.toList (⟨#[65]⟩ : ByteArray).data.toList (⟨#[66]⟩ : ByteArray).data.toList = ([p.data.toList, q.data.toList], 0) from d3)
  have E3 := Lib.hid (show expandOf t3.data.toList (⟨#[65]⟩ : ByteArray).data.toList (⟨#[66]⟩ : ByteArray).data.toList = ([[69, 68, 85], q.data.toList], 0) from d4)
  have tok : True := trivial
  have tok2 : True := trivial
  clear hg hl srr hrd htd1 htd2 htd3 d3 d4 hne
  cases hi : isR r.data.toList with
  | false =>
    have E1 := Lib.hid (show expandOf t1.data.toList (⟨#[65]⟩ : ByteArray).data.toList (⟨#[66]⟩ : ByteArray).data.toList = ([], 2) from d1 hi)
    clear d1 d2
    go_enter Tryd.func4, Tryd.ntmps4
    go_wp2_with (first
      | (go_at_call 20; refine (refkind_any _ _ (by assumption)).mono ?_; rintro e w2 ⟨rfl, hb⟩; (first | rw [hk] | rw [hj]); replace acc := acc.trans (hb.mono acc.size); clear hb)
      | (go_at_call 17; refine (expand_any _ _ _ _ (HG.out.below acc) (by assumption) (by decide) (by decide)).mono ?_; rintro e w4 ⟨ad1, c1, rfl, ho, hb⟩; rw [E1.out] at ho ⊢; replace acc := acc.trans (hb.mono acc.size); have HA1 := At.owns ho; clear hb ho)
      | (go_at_call 17; refine (expand_any _ _ _ _ (HG.out.below acc) (by assumption) (by decide) (by decide)).mono ?_; rintro e w5 ⟨ad2, c2, rfl, ho, hb⟩; rw [E2.out] at ho ⊢; replace acc := acc.trans (hb.mono acc.size); have HA2 := At.owns ho; replace HA1 := HA1.below hb; clear hb ho)
      | (go_at_call 17; refine (expand_any _ _ _ _ (HG.out.below acc) (by assumption) (by decide) (by decide)).mono ?_; rintro e w6 ⟨ad3, c3, rfl, ho, hb⟩; rw [E3.out] at ho ⊢; replace acc := acc.trans (hb.mono acc.size); have HA3 := At.owns ho; replace HA1 := HA1.below hb; replace HA2 := HA2.below hb; clear hb ho)
      | (go_at_call 19; have _t := tok; clear tok; refine (texts_any _ _ _ _ _ _ _ [p.data.toList, q.data.toList] [p.data.toList, q.data.toList] (HA2.below ((Below.refl _ _).alloc (Nat.le_refl _) _)) (at_lit _ _ (by simp)) (by simp) (by simp)).mono ?_; rintro e w8 ⟨rfl, hb⟩; rw [decide_eq_true rfl]; replace HA1 := (HA1.below ((Below.refl _ _).alloc (Nat.le_refl _) _)).below hb; replace HA3 := (HA3.below ((Below.refl _ _).alloc (Nat.le_refl _) _)).below hb; replace acc := (acc.alloc acc.size _).trans (hb.mono (Nat.le_trans acc.size (by simp))); clear hb)
      | (go_at_call 19; have _t := tok2; clear tok2; refine (texts_any _ _ _ _ _ _ _ [[69, 68, 85], q.data.toList] [[69, 68, 85], q.data.toList] (HA3.below ((Below.refl _ _).alloc (Nat.le_refl _) _)) (at_lit _ _ (by simp)) (by simp) (by simp)).mono ?_; rintro e w9 ⟨rfl, hb⟩; rw [decide_eq_true rfl]; replace HA1 := (HA1.below ((Below.refl _ _).alloc (Nat.le_refl _) _)).below hb; replace acc := (acc.alloc acc.size _).trans (hb.mono (Nat.le_trans acc.size (by simp))); clear hb)
      | (go_at_call 14; refine (refis_any _ _ (by assumption)).mono ?_; rintro e w3 ⟨rfl, hb⟩; rw [hi]; replace HA1 := HA1.below hb; replace acc := acc.trans (hb.mono acc.size); clear hb)
      | (go_at_call 18; refine (known_any _ (HG.out.below acc)).mono ?_; rintro e w7 ⟨rfl, hb⟩; replace acc := acc.trans (hb.mono acc.size); clear hb))
    go_ret
    exact ⟨rfl, acc⟩
  | true =>
    have E1 := Lib.hid (show expandOf t1.data.toList (⟨#[65]⟩ : ByteArray).data.toList (⟨#[66]⟩ : ByteArray).data.toList = ([p.data.toList, r.data.toList], 0) from d2 hi)
    clear d1 d2
    go_enter Tryd.func4, Tryd.ntmps4
    go_wp2_with (first
      | (go_at_call 20; refine (refkind_any _ _ (by assumption)).mono ?_; rintro e w2 ⟨rfl, hb⟩; (first | rw [hk] | rw [hj]); replace acc := acc.trans (hb.mono acc.size); clear hb)
      | (go_at_call 17; refine (expand_any _ _ _ _ (HG.out.below acc) (by assumption) (by decide) (by decide)).mono ?_; rintro e w4 ⟨ad1, c1, rfl, ho, hb⟩; rw [E1.out] at ho ⊢; replace acc := acc.trans (hb.mono acc.size); have HA1 := At.owns ho; clear hb ho)
      | (go_at_call 17; refine (expand_any _ _ _ _ (HG.out.below acc) (by assumption) (by decide) (by decide)).mono ?_; rintro e w5 ⟨ad2, c2, rfl, ho, hb⟩; rw [E2.out] at ho ⊢; replace acc := acc.trans (hb.mono acc.size); have HA2 := At.owns ho; replace HA1 := HA1.below hb; clear hb ho)
      | (go_at_call 17; refine (expand_any _ _ _ _ (HG.out.below acc) (by assumption) (by decide) (by decide)).mono ?_; rintro e w6 ⟨ad3, c3, rfl, ho, hb⟩; rw [E3.out] at ho ⊢; replace acc := acc.trans (hb.mono acc.size); have HA3 := At.owns ho; replace HA1 := HA1.below hb; replace HA2 := HA2.below hb; clear hb ho)
      | (go_at_call 19; have _t := tok; clear tok; refine (texts_any _ _ _ _ _ _ _ [p.data.toList, q.data.toList] [p.data.toList, q.data.toList] (HA2.below ((Below.refl _ _).alloc (Nat.le_refl _) _)) (at_lit _ _ (by simp)) (by simp) (by simp)).mono ?_; rintro e w8 ⟨rfl, hb⟩; rw [decide_eq_true rfl]; replace HA1 := (HA1.below ((Below.refl _ _).alloc (Nat.le_refl _) _)).below hb; replace HA3 := (HA3.below ((Below.refl _ _).alloc (Nat.le_refl _) _)).below hb; replace acc := (acc.alloc acc.size _).trans (hb.mono (Nat.le_trans acc.size (by simp))); clear hb)
      | (go_at_call 19; have _t := tok2; clear tok2; refine (texts_any _ _ _ _ _ _ _ [[69, 68, 85], q.data.toList] [[69, 68, 85], q.data.toList] (HA3.below ((Below.refl _ _).alloc (Nat.le_refl _) _)) (at_lit _ _ (by simp)) (by simp) (by simp)).mono ?_; rintro e w9 ⟨rfl, hb⟩; rw [decide_eq_true rfl]; replace HA1 := (HA1.below ((Below.refl _ _).alloc (Nat.le_refl _) _)).below hb; replace acc := (acc.alloc acc.size _).trans (hb.mono (Nat.le_trans acc.size (by simp))); clear hb)
      | (go_at_call 19; refine (texts_any _ _ _ _ _ _ _ [p.data.toList, r.data.toList] [p.data.toList, r.data.toList] (HA1.below ((Below.refl _ _).alloc (Nat.le_refl _) _)) (at_lit _ _ (by simp)) (by simp) (by simp)).mono ?_; rintro e w10 ⟨rfl, hb⟩; rw [decide_eq_true rfl]; replace acc := (acc.alloc acc.size _).trans (hb.mono (Nat.le_trans acc.size (by simp))); clear hb)
      | (go_at_call 14; refine (refis_any _ _ (by assumption)).mono ?_; rintro e w3 ⟨rfl, hb⟩; rw [hi]; replace HA1 := HA1.below hb; replace acc := acc.trans (hb.mono acc.size); clear hb)
      | (go_at_call 18; refine (known_any _ (HG.out.below acc)).mono ?_; rintro e w7 ⟨rfl, hb⟩; replace acc := acc.trans (hb.mono acc.size); clear hb))
    go_ret
    exact ⟨rfl, acc⟩

theorem transitSlashes_walk (p q : ByteArray) (hp : p.size ≤ 140737488351232) (hq : q.size ≤ 140737488351232) (w : World) (hg : Glob w) :
    Calls Tryd.prog 4 #[.string p, .string q] w fun e w' => e = .returned (.bool true) ∧ Below w.heap.size w w' := by
  by_cases hl : 100 < p.size + q.size
  · exact transitSlashes_not w p q hp hq (.inl hl)
  · by_cases hk : kindOf p.data.toList = 2
    · by_cases hj : kindOf q.data.toList = 2
      · by_cases hne : p.data.toList = q.data.toList
        · exact transitSlashes_not w p q hp hq (.inr (.inr (.inr hne)))
        · exact transitSlashes_is w hg p q hl hk hj hne
      · exact transitSlashes_not w p q hp hq (.inr (.inr (.inl hj)))
    · exact transitSlashes_not w p q hp hq (.inr (.inl hk))
end Go.Proofs.YtjbdegcmolimoaaDoor
