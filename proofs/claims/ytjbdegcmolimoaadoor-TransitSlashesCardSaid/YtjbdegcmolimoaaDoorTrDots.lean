/-
  TransitDots: the walk of the law.
-/
import Derived.Test.YtjbdegcmolimoaaDoorTrLib
set_option linter.unusedVariables false
set_option linter.unusedSimpArgs false
namespace Go.Proofs.YtjbdegcmolimoaaDoor
open Go Go.RowKit Go.Lib Go.Shelf

theorem kind_or {r : ByteArray} (k : Nat) : kindOf r.data.toList = k ∨ ∃ K, kindOf r.data.toList = K ∧ (K : Int) ≠ (k : Int) ∧ ((K : Int) != (k : Int)) = true := by
  by_cases h : kindOf r.data.toList = k
  · exact .inl h
  · refine .inr ⟨_, rfl, by omega, ?_⟩
    simp
    omega

theorem transitDots_not (w : World) (p q : ByteArray) (hp : p.size ≤ 140737488351232) (hq : q.size ≤ 140737488351232) (hl : 100 < p.size + q.size ∨ kindOf p.data.toList ≠ 1 ∨ kindOf q.data.toList ≠ 1) :
    Calls Tryd.prog 8 #[.string p, .string q] w fun e w' => e = .returned (.bool true) ∧ Below w.heap.size w w' := by
  have acc : Below w.heap.size w w := Below.refl _ _
  by_cases h : 100 < p.size + q.size
  · have h1 : (100 : Int) < (p.size : Int) + (q.size : Int) := by omega
    clear hl h
    go_enter Tryd.func8, Tryd.ntmps8
    go_wp2
    go_ret
    exact ⟨rfl, acc⟩
  · have h1 : ¬ (100 : Int) < (p.size : Int) + (q.size : Int) := by omega
    have sp : p.size < 90000 := by omega
    have sq : q.size < 90000 := by omega
    rcases kind_or (r := p) 1 with hk | ⟨K, hk, hkz, hkb⟩
    · rcases kind_or (r := q) 1 with hj | ⟨J, hj, hjz, hjb⟩
      · omega
      · clear hl h
        go_enter Tryd.func8, Tryd.ntmps8
        go_wp2_with (go_at_call 20; refine (refkind_any _ _ (by assumption)).mono ?_; rintro e w2 ⟨rfl, hb⟩; (first | rw [hk] | rw [hj]); replace acc := acc.trans (hb.mono acc.size); clear hb)
        go_ret
        exact ⟨rfl, acc⟩
    · clear hl h
      go_enter Tryd.func8, Tryd.ntmps8
      go_wp2_with (go_at_call 20; refine (refkind_any _ _ (by assumption)).mono ?_; rintro e w2 ⟨rfl, hb⟩; rw [hk]; replace acc := acc.trans (hb.mono acc.size); clear hb)
      go_ret
      exact ⟨rfl, acc⟩

set_option maxHeartbeats 4000000 in
theorem transitDots_is (w : World) (hg : Glob w) (p q : ByteArray) (hl : ¬ 100 < p.size + q.size) (hk : kindOf p.data.toList = 1) (hj : kindOf q.data.toList = 1) :
    Calls Tryd.prog 8 #[.string p, .string q] w fun e w' => e = .returned (.bool true) ∧ Below w.heap.size w w' := by
  have acc : Below w.heap.size w w := Below.refl _ _
  have h1 : ¬ (100 : Int) < (p.size : Int) + (q.size : Int) := by omega
  have sp : p.size < 90000 := by omega
  have sq : q.size < 90000 := by omega
  obtain ⟨d1, d2⟩ := dots hk hj
  obtain ⟨r, hr⟩ : ∃ r : ByteArray, (q ++ (⟨#[46]⟩ : ByteArray)) ++ p = r := ⟨_, rfl⟩
  have hrd : r.data.toList = q.data.toList ++ 46 :: p.data.toList := by
    rw [← hr, cat_data, cat_data]
    simp
  have srr : r.size = q.size + 1 + p.size := by rw [← hr, cat_size, cat_size]; rfl
  have sr : r.size < 90000 := by omega
  obtain ⟨t, ht⟩ : ∃ t : ByteArray, ((p ++ (⟨#[44]⟩ : ByteArray)) ++ q) ++ (⟨#[46]⟩ : ByteArray) = t := ⟨_, rfl⟩
  have htd : t.data.toList = p.data.toList ++ 44 :: (q.data.toList ++ [46]) := by
    rw [← ht, cat_data, cat_data, cat_data]
    simp
  have stt : t.size = p.size + 1 + q.size + 1 := by rw [← ht, cat_size, cat_size, cat_size]; rfl
  have st : t.size < 70000 := by omega
  rw [← hrd, ← htd] at d1 d2
  have HG := Lib.hid hg
  have HRD := Lib.hid hrd
  have HTD := Lib.hid htd
  clear hg hl srr stt hrd htd
  cases hi : isR r.data.toList with
  | false =>
    have E1 := Lib.hid (show expandOf t.data.toList (⟨#[65]⟩ : ByteArray).data.toList (⟨#[66]⟩ : ByteArray).data.toList = ([], 2) from d1 hi)
    clear d1 d2
    go_enter Tryd.func8, Tryd.ntmps8
    go_wp2_with (first
      | (go_at_call 20; refine (refkind_any _ _ (by assumption)).mono ?_; rintro e w2 ⟨rfl, hb⟩; (first | rw [hk] | rw [hj]); replace acc := acc.trans (hb.mono acc.size); clear hb)
      | (go_at_call 17; refine (expand_any _ _ _ _ (HG.out.below acc) (by assumption) (by decide) (by decide)).mono ?_; rintro e w4 ⟨ad1, c1, rfl, ho, hb⟩; rw [E1.out] at ho ⊢; replace acc := acc.trans (hb.mono acc.size); clear hb ho)
      | (go_at_call 14; refine (refis_any _ _ (by assumption)).mono ?_; rintro e w3 ⟨rfl, hb⟩; rw [hi]; replace acc := acc.trans (hb.mono acc.size); clear hb)
      | (go_at_call 18; refine (known_any _ (HG.out.below acc)).mono ?_; rintro e w7 ⟨rfl, hb⟩; replace acc := acc.trans (hb.mono acc.size); clear hb))
    go_ret
    exact ⟨rfl, acc⟩
  | true =>
    obtain ⟨d3, d4⟩ := d2 hi
    have E1 := Lib.hid (show expandOf t.data.toList (⟨#[65]⟩ : ByteArray).data.toList (⟨#[66]⟩ : ByteArray).data.toList = ([p.data.toList, r.data.toList], 0) from d3)
    have E2 := Lib.hid d4
    have hq := eq_text t t
    rw [decide_eq_true rfl] at hq
    have hsz : ∀ x ∈ [p.data.toList, r.data.toList], x.length < 90000 := by
      intro x hx
      simp only [List.mem_cons, List.mem_nil_iff, or_false] at hx
      rcases hx with rfl | rfl
      · exact sp
      · exact sr
    have HSZ := Lib.hid hsz
    clear d1 d2 d3 d4 hsz
    go_enter Tryd.func8, Tryd.ntmps8
    go_wp2_with (first
      | (go_at_call 20; refine (refkind_any _ _ (by assumption)).mono ?_; rintro e w2 ⟨rfl, hb⟩; (first | rw [hk] | rw [hj]); replace acc := acc.trans (hb.mono acc.size); clear hb)
      | (go_at_call 17; refine (expand_any _ _ _ _ (HG.out.below acc) (by assumption) (by decide) (by decide)).mono ?_; rintro e w4 ⟨ad1, c1, rfl, ho, hb⟩; rw [E1.out] at ho ⊢; replace acc := acc.trans (hb.mono acc.size); have HA1 := At.owns ho; clear hb ho)
      | (go_at_call 14; refine (refis_any _ _ (by assumption)).mono ?_; rintro e w3 ⟨rfl, hb⟩; rw [hi]; replace acc := acc.trans (hb.mono acc.size); replace HA1 := HA1.below hb; clear hb)
      | (go_at_call 21; refine (compress_any _ (HG.out.below (acc.alloc acc.size _)) _ _ _ [p.data.toList, r.data.toList] (at_lit _ _ (by simp)) (by simp) HSZ.out).mono ?_; rintro e w6 ⟨rfl, hb⟩; rw [E2.out]; replace HA1 := (HA1.below ((Below.refl _ _).alloc (Nat.le_refl _) _)).below hb; replace acc := (acc.alloc acc.size _).trans (hb.mono (Nat.le_trans acc.size (by simp))); clear hb)
      | (go_at_call 19; refine (texts_any _ _ _ _ _ _ _ [p.data.toList, r.data.toList] [p.data.toList, r.data.toList] (HA1.below ((Below.refl _ _).alloc (Nat.le_refl _) _)) (at_lit _ _ (by simp)) (by simp) (by simp)).mono ?_; rintro e w8 ⟨rfl, hb⟩; rw [decide_eq_true rfl]; replace acc := (acc.alloc acc.size _).trans (hb.mono (Nat.le_trans acc.size (by simp))); clear hb)
      | (go_at_call 18; refine (known_any _ (HG.out.below acc)).mono ?_; rintro e w7 ⟨rfl, hb⟩; replace acc := acc.trans (hb.mono acc.size); clear hb))
    go_ret
    exact ⟨rfl, acc⟩

theorem transitDots_walk (p q : ByteArray) (hp : p.size ≤ 140737488351232) (hq : q.size ≤ 140737488351232) (w : World) (hg : Glob w) :
    Calls Tryd.prog 8 #[.string p, .string q] w fun e w' => e = .returned (.bool true) ∧ Below w.heap.size w w' := by
  by_cases hl : 100 < p.size + q.size
  · exact transitDots_not w p q hp hq (.inl hl)
  · by_cases hk : kindOf p.data.toList = 1
    · by_cases hj : kindOf q.data.toList = 1
      · exact transitDots_is w hg p q hl hk hj
      · exact transitDots_not w p q hp hq (.inr (.inr hj))
    · exact transitDots_not w p q hp hq (.inr (.inl hk))
end Go.Proofs.YtjbdegcmolimoaaDoor
