/-
  TransitEnds, TransitDots, TransitSlashes: the walks of the laws.
-/
import Derived.Test.YtjbdegcmolimoaaDoorTrLib
set_option linter.unusedVariables false
set_option linter.unusedSimpArgs false
namespace Go.Proofs.YtjbdegcmolimoaaDoor
open Go Go.RowKit Go.Lib Go.Shelf

theorem bulk3 (s a b : ByteArray) : bulk [s.data.toList, a.data.toList, b.data.toList] = 3 + (s.size + a.size + b.size) := by
  have e1 : s.data.toList.length = s.size := rfl
  have e2 : a.data.toList.length = a.size := rfl
  have e3 : b.data.toList.length = b.size := rfl
  simp only [bulk, List.map_cons, List.map_nil, List.sum_cons, List.sum_nil]
  omega

set_option maxHeartbeats 4000000 in
theorem transitEnds_walk (s a b : ByteArray) (hs : s.size ≤ 140737488351232) (ha : a.size ≤ 140737488351232) (hb : b.size ≤ 140737488351232) (w : World) (hg : Glob w) :
    Calls Tryd.prog 12 #[.string s, .string a, .string b] w fun e w' => e = .returned (.bool true) ∧ Below w.heap.size w w' := by
  have acc : Below w.heap.size w w := Below.refl _ _
  have hbk := bulk3 s a b
  by_cases h6 : 600 < bulk [s.data.toList, a.data.toList, b.data.toList]
  · have hd := Lib.hid (decide_eq_true h6)
    have hle : bulk [s.data.toList, a.data.toList, b.data.toList] ≤ 4000000000000000000 := by omega
    clear hbk h6 hg
    go_enter Tryd.func12, Tryd.ntmps12
    go_wp2_with (go_at_call 13; refine (large_any _ _ _ _ [s.data.toList, a.data.toList, b.data.toList] (at_lit _ _ (by simp)) hle).mono ?_; rintro e w2 ⟨rfl, h2⟩; rw [hd.out]; replace acc : Below w.heap.size w w2 := (by rw [h2]; exact acc.alloc acc.size _); clear h2)
    go_ret
    exact ⟨rfl, acc⟩
  · have hd := Lib.hid (decide_eq_false h6)
    have hle : bulk [s.data.toList, a.data.toList, b.data.toList] ≤ 4000000000000000000 := by omega
    have ss : s.size < 70000 := by omega
    have sa : a.size < 90000 := by omega
    have sb : b.size < 90000 := by omega
    have HG := Lib.hid hg
    clear hbk h6 hg
    by_cases hboth : isR a.data.toList = true ∧ isR b.data.toList = true
    · obtain ⟨hx, hy⟩ := hboth
      go_enter Tryd.func12, Tryd.ntmps12
      go_wp2_with (first
        | (go_at_call 13; refine (large_any _ _ _ _ [s.data.toList, a.data.toList, b.data.toList] (at_lit _ _ (by simp)) hle).mono ?_; rintro e w2 ⟨rfl, h2⟩; rw [hd.out]; replace acc : Below w.heap.size w w2 := (by rw [h2]; exact acc.alloc acc.size _); clear h2)
        | (go_at_call 14; refine (refis_any _ _ (by assumption)).mono ?_; rintro e w3 ⟨rfl, hb⟩; (first | rw [hx] | rw [hy]); replace acc := acc.trans (hb.mono acc.size); clear hb))
      go_ret
      exact ⟨rfl, acc⟩
    · have hne : isR a.data.toList = false ∨ isR b.data.toList = false := by
        cases hx : isR a.data.toList
        · exact .inl rfl
        · cases hy : isR b.data.toList
          · exact .inr rfl
          · exact absurd ⟨hx, hy⟩ hboth
      have E1 := Lib.hid (ends_expand (s := s.data.toList) hne)
      have E2 := Lib.hid (ends_insert (s := s.data.toList) (r := (⟨#[69, 68, 85]⟩ : ByteArray).data.toList) hne)
      have E3 := Lib.hid ends_compress
      have hc : ∀ w e w2, CompPost w w2 [[69, 68, 85], [101, 100, 117]] e → e = .returned (.tuple #[.string ⟨#[]⟩, .int .i64 1]) ∧ Below w.heap.size w w2 := by
        rintro w e w2 ⟨rfl, hb⟩
        rw [E3.out]
        exact ⟨rfl, hb⟩
      have HC := Lib.hid hc
      clear hne hc
      cases hx : isR a.data.toList with
      | false =>
        clear hboth
        go_enter Tryd.func12, Tryd.ntmps12
        go_wp2_with (first
          | (go_at_call 13; refine (large_any _ _ _ _ [s.data.toList, a.data.toList, b.data.toList] (at_lit _ _ (by simp)) hle).mono ?_; rintro e w2 ⟨rfl, h2⟩; rw [hd.out]; replace acc : Below w.heap.size w w2 := (by rw [h2]; exact acc.alloc acc.size _); clear h2)
          | (go_at_call 14; refine (refis_any _ _ (by assumption)).mono ?_; rintro e w3 ⟨rfl, hb⟩; rw [hx]; replace acc := acc.trans (hb.mono acc.size); clear hb)
          | (go_at_call 17; refine (expand_any _ _ _ _ (HG.out.below acc) (by assumption) (by assumption) (by assumption)).mono ?_; rintro e w4 ⟨ad1, c1, rfl, ho, hb⟩; rw [E1.out] at ho ⊢; replace acc := acc.trans (hb.mono acc.size); clear hb ho)
          | (go_at_call 24; refine (insert_any _ _ _ _ _ (HG.out.below acc) (by assumption) (by assumption) (by assumption) (by decide)).mono ?_; rintro e w5 ⟨rfl, hb⟩; rw [E2.out]; replace acc := acc.trans (hb.mono acc.size); clear hb)
          | (go_at_call 21; refine (compress_any _ (HG.out.below (acc.alloc acc.size _)) _ _ _ [[69, 68, 85], [101, 100, 117]] (at_lit _ _ (by decide)) (by decide) (by decide)).mono ?_; intro e w6 hp; obtain ⟨rfl, hb⟩ := HC.out _ _ _ hp; replace acc := (acc.alloc acc.size _).trans (hb.mono (Nat.le_trans acc.size (by simp))); clear hb hp)
          | (go_at_call 18; refine (known_any _ (HG.out.below acc)).mono ?_; rintro e w7 ⟨rfl, hb⟩; replace acc := acc.trans (hb.mono acc.size); clear hb))
        go_ret
        exact ⟨rfl, acc⟩
      | true =>
        have hy : isR b.data.toList = false := by
          cases hy : isR b.data.toList
          · rfl
          · exact absurd ⟨hx, hy⟩ hboth
        clear hboth
        go_enter Tryd.func12, Tryd.ntmps12
        go_wp2_with (first
          | (go_at_call 13; refine (large_any _ _ _ _ [s.data.toList, a.data.toList, b.data.toList] (at_lit _ _ (by simp)) hle).mono ?_; rintro e w2 ⟨rfl, h2⟩; rw [hd.out]; replace acc : Below w.heap.size w w2 := (by rw [h2]; exact acc.alloc acc.size _); clear h2)
          | (go_at_call 14; refine (refis_any _ _ (by assumption)).mono ?_; rintro e w3 ⟨rfl, hb⟩; (first | rw [hx] | rw [hy]); replace acc := acc.trans (hb.mono acc.size); clear hb)
          | (go_at_call 17; refine (expand_any _ _ _ _ (HG.out.below acc) (by assumption) (by assumption) (by assumption)).mono ?_; rintro e w4 ⟨ad1, c1, rfl, ho, hb⟩; rw [E1.out] at ho ⊢; replace acc := acc.trans (hb.mono acc.size); clear hb ho)
          | (go_at_call 24; refine (insert_any _ _ _ _ _ (HG.out.below acc) (by assumption) (by assumption) (by assumption) (by decide)).mono ?_; rintro e w5 ⟨rfl, hb⟩; rw [E2.out]; replace acc := acc.trans (hb.mono acc.size); clear hb)
          | (go_at_call 21; refine (compress_any _ (HG.out.below (acc.alloc acc.size _)) _ _ _ [[69, 68, 85], [101, 100, 117]] (at_lit _ _ (by decide)) (by decide) (by decide)).mono ?_; intro e w6 hp; obtain ⟨rfl, hb⟩ := HC.out _ _ _ hp; replace acc := (acc.alloc acc.size _).trans (hb.mono (Nat.le_trans acc.size (by simp))); clear hb hp)
          | (go_at_call 18; refine (known_any _ (HG.out.below acc)).mono ?_; rintro e w7 ⟨rfl, hb⟩; replace acc := acc.trans (hb.mono acc.size); clear hb))
        go_ret
        exact ⟨rfl, acc⟩
end Go.Proofs.YtjbdegcmolimoaaDoor
