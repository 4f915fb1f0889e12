/-
  NameTells: the walk of the law.
-/
import Derived.Test.YtnifihnlmanpkaaDoorRefBet
import Derived.Test.YtnifihnlmanpkaaDoorRefTgt
import Derived.Test.YtnifihnlmanpkaaDoorRefCanon
import Derived.Test.YtnifihnlmanpkaaDoorTexts
set_option linter.unusedVariables false
set_option linter.unusedSimpArgs false
namespace Go.Proofs.YtnifihnlmanpkaaDoor
open Go Go.RowKit Go.Lib Go.Shelf

theorem princ_keep (w : World) (a n : ByteArray) : ∀ w2, Below (w.alloc (.cells #[.string a, .string n] 35)).heap.size (w.alloc (.cells #[.string a, .string n] 35)) w2 → w2.cell? ⟨w.heap.size, 0, none⟩ = some (.string a) ∧ w2.cell? ⟨w.heap.size, 1, none⟩ = some (.string n) := fun w2 hb => by
  have hh : (w.alloc (.cells #[.string a, .string n] 35)).heap.size = w.heap.size + 1 := by simp
  have e0 : (w.alloc (.cells #[.string a, .string n] 35)).cell? ⟨w.heap.size, 0, none⟩ = some (.string a) := (cell_of_row _ _ _ _ _ _ (heap_alloc_new w _)).trans rfl
  have e1 : (w.alloc (.cells #[.string a, .string n] 35)).cell? ⟨w.heap.size, 1, none⟩ = some (.string n) := (cell_of_row _ _ _ _ _ _ (heap_alloc_new w _)).trans rfl
  exact ⟨(hb.cell (p := ⟨w.heap.size, 0, none⟩) (by rw [hh]; exact Nat.lt_succ_self _)).trans e0, (hb.cell (p := ⟨w.heap.size, 1, none⟩) (by rw [hh]; exact Nat.lt_succ_self _)).trans e1⟩

theorem nameTells_long (w : World) (a b n : ByteArray) (ha : a.size ≤ 140737488351232) (hb : b.size ≤ 140737488351232) (hc : n.size ≤ 140737488351232) (hl : 400 < a.size + b.size + n.size) :
    Calls Tryd.prog 11 #[.string a, .string b, .string n] w fun e w' => e = .returned (.bool true) ∧ Below w.heap.size w w' := by
  have h1 : (400 : Int) < (a.size : Int) + (b.size : Int) + (n.size : Int) := by omega
  clear hl
  go_enter Tryd.func11, Tryd.ntmps11
  go_wp2
  go_ret
  exact ⟨rfl, Below.refl _ _⟩

set_option maxHeartbeats 4000000 in
set_option maxRecDepth 1000000 in
theorem nameTells_short (w : World) (hg : Glob w) (a b n : ByteArray) (hl : ¬ 400 < a.size + b.size + n.size) :
    Calls Tryd.prog 11 #[.string a, .string b, .string n] w fun e w' => e = .returned (.bool true) ∧ Below w.heap.size w w' := by
  have h1 : ¬ (400 : Int) < (a.size : Int) + (b.size : Int) + (n.size : Int) := by omega
  have sa : a.size < 90000 := by omega
  have sb : b.size < 90000 := by omega
  have sn : n.size < 90000 := by omega
  have h6 := betOf_six a.data.toList b.data.toList
  obtain ⟨R, hR⟩ : ∃ R, betOf a.data.toList b.data.toList = R := ⟨_, rfl⟩
  obtain ⟨cn, hcn⟩ : ∃ x : ByteArray, (⟨(canonOf a.data.toList).toArray⟩ : ByteArray) = x := ⟨_, rfl⟩
  obtain ⟨up, hup⟩ : ∃ x : ByteArray, (⟨(upOf a.data.toList).toArray⟩ : ByteArray) = x := ⟨_, rfl⟩
  obtain ⟨kr, hkr⟩ : ∃ x : ByteArray, (⟨(krb ++ a.data.toList).toArray⟩ : ByteArray) = x := ⟨_, rfl⟩
  obtain ⟨tg, htg⟩ : ∃ x : ByteArray, (⟨(targetOf n.data.toList).1.toArray⟩ : ByteArray) = x := ⟨_, rfl⟩
  obtain ⟨ok, hok⟩ : ∃ x : Bool, (targetOf n.data.toList).2 = x := ⟨_, rfl⟩
  obtain ⟨kd, hkd⟩ : ∃ x : Nat, kindOf a.data.toList = x := ⟨_, rfl⟩
  obtain ⟨is, his⟩ : ∃ x : Bool, isR a.data.toList = x := ⟨_, rfl⟩
  obtain ⟨un, hun⟩ : ∃ x : Bool, underOf a.data.toList b.data.toList = x := ⟨_, rfl⟩
  obtain ⟨pr, hpr⟩ : ∃ x : Bool, princOf a.data.toList n.data.toList = x := ⟨_, rfl⟩
  rw [hR] at h6
  have H1 := Lib.hid hR; have H2 := Lib.hid hcn; have H3 := Lib.hid hup; have H4 := Lib.hid hkr; have H5 := Lib.hid htg; have H6 := Lib.hid hok; have H7 := Lib.hid hkd; have H8 := Lib.hid his; have H9 := Lib.hid hun; have H10 := Lib.hid hpr
  have HG := Lib.hid hg
  clear hg hl hR hcn hup hkr htg hok hkd his hun hpr
  have acc : Below w.heap.size w w := Below.refl _ _
  have tok : True := trivial
  go_enter Tryd.func11, Tryd.ntmps11
  go_wp2_with (first
    | (go_at_call 21; refine (target_any _ _ (HG.out.below acc) (by assumption)).mono ?_; rintro e w2 ⟨rfl, hb⟩; rw [H5.out, H6.out]; replace acc := acc.trans (hb.mono acc.size); clear hb)
    | (go_at_call 25; refine (reftarget_any _ _ (by assumption)).mono ?_; rintro e w2 ⟨rfl, hb⟩; rw [H5.out, H6.out]; replace acc := acc.trans (hb.mono acc.size); clear hb))
  have KP := Lib.hid (princ_keep w2 a n)
  have acc0 := acc.alloc acc.size (.cells #[.string a, .string n] 35)
  generalize hp : w2.heap.size = p at KP ⊢
  generalize w2.alloc (.cells #[.string a, .string n] 35) = W1 at KP acc0 ⊢
  clear hp acc
  have acc1 : Below W1.heap.size W1 W1.drew := (Below.refl _ _).drew
  have acc := acc0.drew
  clear acc0
  dsimp only [List.cons_append, List.nil_append, List.append_eq]
  go_region_held3 (fun W => W.cell? ⟨p, 0, none⟩ = some (.string a) ∧ W.cell? ⟨p, 1, none⟩ = some (.string n)) (first | exact KP.out _ acc1 | exact KP.out _ (Below.refl _ _) | go_keep)
    (first
      | (go_at_call 23; refine (kind_any _ _ (HG.out.below acc) (by assumption)).mono ?_; rintro e w2 ⟨rfl, hb⟩; rw [H7.out]; replace acc := acc.trans (hb.mono acc.size); replace acc1 := acc1.trans (hb.mono acc1.size); clear hb)
      | (go_at_call 20; refine (refkind_any _ _ (by assumption)).mono ?_; rintro e w2 ⟨rfl, hb⟩; rw [H7.out]; replace acc := acc.trans (hb.mono acc.size); replace acc1 := acc1.trans (hb.mono acc1.size); clear hb)
      | (go_at_call 16; refine (is_any _ _ (HG.out.below acc) (by assumption)).mono ?_; rintro e w2 ⟨rfl, hb⟩; rw [H8.out]; replace acc := acc.trans (hb.mono acc.size); replace acc1 := acc1.trans (hb.mono acc1.size); clear hb)
      | (go_at_call 12; refine (refis_any _ _ (by assumption)).mono ?_; rintro e w2 ⟨rfl, hb⟩; rw [H8.out]; replace acc := acc.trans (hb.mono acc.size); replace acc1 := acc1.trans (hb.mono acc1.size); clear hb)
      | (go_at_call 18; refine (canon_any _ _ (by assumption)).mono ?_; rintro e w2 ⟨rfl, hb⟩; rw [H2.out]; replace acc := acc.trans (hb.mono acc.size); replace acc1 := acc1.trans (hb.mono acc1.size); clear hb)
      | (go_at_call 26; refine (refcanon_any _ _ (by assumption)).mono ?_; rintro e w2 ⟨rfl, hb⟩; rw [H2.out]; replace acc := acc.trans (hb.mono acc.size); replace acc1 := acc1.trans (hb.mono acc1.size); clear hb)
      | (go_at_call 17; refine (up_any _ _ (HG.out.below acc) (by assumption)).mono ?_; rintro e w2 ⟨rfl, hb⟩; rw [H3.out]; replace acc := acc.trans (hb.mono acc.size); replace acc1 := acc1.trans (hb.mono acc1.size); clear hb)
      | (go_at_call 15; refine (refup_any _ _ (by assumption)).mono ?_; rintro e w2 ⟨rfl, hb⟩; rw [H3.out]; replace acc := acc.trans (hb.mono acc.size); replace acc1 := acc1.trans (hb.mono acc1.size); clear hb)
      | (go_at_call 19; refine (under_any _ _ _ (HG.out.below acc) (by assumption) (by assumption)).mono ?_; rintro e w2 ⟨rfl, hb⟩; rw [H9.out]; replace acc := acc.trans (hb.mono acc.size); replace acc1 := acc1.trans (hb.mono acc1.size); clear hb)
      | (go_at_call 27; refine (refunder_any _ _ _ (by assumption) (by assumption)).mono ?_; rintro e w2 ⟨rfl, hb⟩; rw [H9.out]; replace acc := acc.trans (hb.mono acc.size); replace acc1 := acc1.trans (hb.mono acc1.size); clear hb)
      | (go_at_call 13; refine (between_any _ _ _ (HG.out.below acc) (by assumption) (by assumption)).mono ?_; rintro e w3 ⟨ad1, c1, rfl, ho1, hb⟩; rw [H1.out] at ho1 ⊢; replace acc := acc.trans (hb.mono acc.size); replace acc1 := acc1.trans (hb.mono acc1.size); have HA1 := At.owns ho1; clear hb ho1)
      | (go_at_call 29; refine (refbet_any _ _ _ (by assumption) (by assumption)).mono ?_; rintro e w4 ⟨ad2, c2, rfl, ho2, hb⟩; rw [H1.out] at ho2 ⊢; replace acc := acc.trans (hb.mono acc.size); replace acc1 := acc1.trans (hb.mono acc1.size); have HA2 := At.owns ho2; replace HA1 := HA1.below hb; clear hb ho2)
      | (go_at_call 28; refine (texts_any _ _ _ _ _ _ _ _ _ HA1 HA2 (by omega) (by omega)).mono ?_; rintro e w2 ⟨rfl, hb⟩; rw [decide_eq_true (rfl : R = R)]; replace acc := acc.trans (hb.mono acc.size); replace acc1 := acc1.trans (hb.mono acc1.size); clear hb HA1 HA2)
      | (go_at_call 22; refine (krbtgt_any _ _ (by assumption)).mono ?_; rintro e w2 ⟨rfl, rfl⟩; rw [H4.out])
      | (go_at_call 30; refine (refkrb_any _ _ (by assumption)).mono ?_; rintro e w2 ⟨rfl, rfl⟩; rw [H4.out])
      | (go_at_call 24; refine (princ_any _ _ _ (HG.out.below acc) (by assumption) (by assumption)).mono ?_; rintro e w2 ⟨rfl, hb⟩; rw [H10.out]; replace acc := acc.trans (hb.mono acc.size); replace acc1 := acc1.trans (hb.mono acc1.size); clear hb)
      | (go_at_call 31; refine (refprinc_any _ _ _ (by assumption) (by assumption)).mono ?_; rintro e w2 ⟨rfl, hb⟩; rw [H10.out]; replace acc := acc.trans (hb.mono acc.size); replace acc1 := acc1.trans (hb.mono acc1.size); clear hb)
      | (go_at_call 14; refine (known_any _ (HG.out.below acc)).mono ?_; rintro e w2 ⟨rfl, hb⟩; replace acc := acc.trans (hb.mono acc.size); replace acc1 := acc1.trans (hb.mono acc1.size); clear hb))
  go_wp2
  go_ret
  exact ⟨rfl, acc⟩

theorem nameTells_walk (a b n : ByteArray) (ha : a.size ≤ 140737488351232) (hb : b.size ≤ 140737488351232) (hn : n.size ≤ 140737488351232) (w : World) (hg : Glob w) :
    Calls Tryd.prog 11 #[.string a, .string b, .string n] w fun e w' => e = .returned (.bool true) ∧ Below w.heap.size w w' := by
  by_cases hl : 400 < a.size + b.size + n.size
  · exact nameTells_long w a b n ha hb hn hl
  · exact nameTells_short w hg a b n hl
end Go.Proofs.YtnifihnlmanpkaaDoor
