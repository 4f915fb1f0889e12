/-
  name.Kind, Is, Up, Under, Krbtgt, Target, IsPrinc.
-/
import Derived.Test.YtnifihnlmanpkaaDoorRealm
set_option linter.unusedVariables false
set_option linter.unusedSimpArgs false
namespace Go.Proofs.YtnifihnlmanpkaaDoor
open Go Go.RowKit Go.Lib Go.Shelf

def krb : Str := [107, 114, 98, 116, 103, 116, 47]
def targetOf (n : Str) : Str × Bool := if Lib.hasPrefix n krb = true ∧ isR (n.drop 7) = true then (n.drop 7, true) else ([], false)
def princOf (r n : Str) : Bool := isR r && ((targetOf n).2 || word smB n)

theorem kind_any (w : World) (s : ByteArray) (hg : Glob w) (hs : s.size < 90000) :
    Calls Tryd.prog 23 #[.string s] w fun e w' => e = .returned (.int .i64 (kindOf s.data.toList)) ∧ Below w.heap.size w w' := by
  have hL := labels_any w s hg hs
  go_enter Tryd.func23, Tryd.ntmps23
  go_wp2_with (go_at_call 32; refine hL.mono ?_; rintro e w1 ⟨ad, c, rfl, hA, hc, hb⟩)
  go_ret
  exact ⟨rfl, hb⟩

theorem is_any (w : World) (s : ByteArray) (hg : Glob w) (hs : s.size < 90000) :
    Calls Tryd.prog 16 #[.string s] w fun e w' => e = .returned (.bool (isR s.data.toList)) ∧ Below w.heap.size w w' := by
  have hK := kind_any w s hg hs
  have hr : ((kindOf s.data.toList : Int) != 0) = isR s.data.toList := by
    unfold isR
    rcases kindOf_le s.data.toList with h | h | h <;> rw [h] <;> rfl
  go_enter Tryd.func16, Tryd.ntmps16
  go_wp2_with (go_at_call 23; refine hK.mono ?_; rintro e w1 ⟨rfl, hb⟩)
  go_ret
  exact ⟨by first | rfl | (rw [← hr]; rfl), hb⟩

theorem up_any (w : World) (s : ByteArray) (hg : Glob w) (hs : s.size < 90000) :
    Calls Tryd.prog 17 #[.string s] w fun e w' => e = .returned (.string ⟨(upOf s.data.toList).toArray⟩) ∧ Below w.heap.size w w' := by
  have hL := labels_any w s hg hs
  by_cases hk : kindOf s.data.toList = 0
  · have hr : upOf s.data.toList = [] := by unfold upOf; rw [if_pos hk]
    rw [hr]
    have hk2 : (labelsOf s.data.toList).2 = 0 := hk
    go_enter Tryd.func17, Tryd.ntmps17
    go_wp2_with (go_at_call 32; refine hL.mono ?_; rintro e w1 ⟨ad, c, rfl, hA, hc, hb⟩)
    go_ret
    exact ⟨rfl, hb⟩
  · have hG := (good_of_kind hk).1
    have hr : upOf s.data.toList = realmOf ((labelsOf s.data.toList).1.take ((labelsOf s.data.toList).1.length - 1)) (labelsOf s.data.toList).2 := by unfold upOf; rw [if_neg hk, List.dropLast_eq_take]; rfl
    rw [hr]
    clear hr
    have hk2 : (labelsOf s.data.toList).2 = kindOf s.data.toList := rfl
    rw [← hk2] at hG hk
    unfold LabPost at hL
    generalize (labelsOf s.data.toList).1 = L at *
    generalize (labelsOf s.data.toList).2 = K at *
    have hlen : 1 ≤ L.length := List.length_pos_iff.2 hG.ne
    have hfew := hG.few
    have hkz : (K : Int) ≠ 0 := by omega
    have hsub : (L.length : Int) - 1 = ((L.length - 1 : Nat) : Int) := by omega
    have hw : ∀ x ∈ L.take (L.length - 1), x.length ≤ 8 := fun x hx => (word_up (hG.word x (List.mem_of_mem_take hx))).2.1
    have HG := Lib.hid hG
    clear hG hk2
    go_enter Tryd.func17, Tryd.ntmps17
    go_wp2_with (first
      | (go_at_call 32; refine hL.mono ?_; rintro e w1 ⟨ad, c, rfl, hA, hc, hb⟩)
      | (go_at_call 33; refine (realm_any _ _ _ _ _ _ (hA.take (by omega)) HG.out.kind (by omega) hw).mono ?_; rintro e w2 ⟨rfl, hb2⟩))
    go_ret
    exact ⟨rfl, hb.trans (hb2.mono hb.size)⟩

theorem allEq_bytes : ∀ l m : List Str, Lib.allEq (fun x y : ByteArray => x.toList == y.toList) (bytesOf l) (bytesOf m) = decide (l = m)
  | [], [] => rfl
  | [], _ :: _ => rfl
  | _ :: _, [] => rfl
  | x :: l, y :: m => by
    have ih := allEq_bytes l m
    show (((⟨x.toArray⟩ : ByteArray).toList == (⟨y.toArray⟩ : ByteArray).toList) && Lib.allEq _ (bytesOf l) (bytesOf m)) = _
    rw [ih, ByteArray.toList_eq, ByteArray.toList_eq]
    rw [Bool.eq_iff_iff]
    simp

theorem equal_any (w : World) (ad ad2 : Option Addr) (n c m d : Nat) (l k : List Str) (hA : At w ad n l) (hB : At w ad2 m k) (hn : 0 < n) (hm : 0 < m) (hn2 : n ≤ 100) (hm2 : m ≤ 100) :
    Calls Tryd.prog 37 #[.slice ad n c, .slice ad2 m d] w fun e w' => e = .returned (.bool (decide (l = k))) ∧ Below w.heap.size w w' := by
  obtain ⟨b, off, rfl, hlt, hcell⟩ := hA.cell hn
  obtain ⟨b2, off2, rfl, hlt2, hcell2⟩ := hB.cell hm
  have hl := hA.len
  have hk := hB.len
  have e1 : (bytesOf l).take n = bytesOf l := by rw [← hl, ← bytesOf_len, List.take_length]
  have e2 : (bytesOf k).take m = bytesOf k := by rw [← hk, ← bytesOf_len, List.take_length]
  have get : ∀ (l : List Str) (j : Nat), j < l.length → (bytesOf l)[j]! = ⟨l[j]!.toArray⟩ := fun l j hj => by
    rw [getElem!_pos _ j (by rw [bytesOf_len]; exact hj), getElem!_pos l j hj]
    simp [bytesOf]
  refine (Tryd.slices_Equal Value.string _ (NeqAt.string Tryd.prog 9) b off n c b2 off2 m d (bytesOf l) (bytesOf k) w (by rw [bytesOf_len, hl]; exact Nat.le_refl _) (by rw [bytesOf_len, hk]; exact Nat.le_refl _) (by omega) (by omega)
    (fun j hj => by rw [bytesOf_len, hl] at hj; rw [hcell j hj, get l j (by omega)]) (fun j hj => by rw [bytesOf_len, hk] at hj; rw [hcell2 j hj, get k j (by omega)])).mono ?_
  rintro e w' ⟨rfl, q, rfl⟩
  rw [e1, e2, allEq_bytes]
  exact ⟨rfl, below_drewN (Below.refl _ _) _⟩

theorem under_any (w : World) (a b : ByteArray) (hg : Glob w) (ha : a.size < 90000) (hb : b.size < 90000) :
    Calls Tryd.prog 19 #[.string a, .string b] w fun e w' => e = .returned (.bool (underOf a.data.toList b.data.toList)) ∧ Below w.heap.size w w' := by
  have hL := labels_any w a hg ha
  have hL2 := fun w hg => labels_any w b hg hb
  have HG := Lib.hid hg
  have hr : underOf a.data.toList b.data.toList = (decide ((labelsOf a.data.toList).2 ≠ 0) && (decide ((labelsOf a.data.toList).2 = (labelsOf b.data.toList).2) && (decide ((labelsOf b.data.toList).1.length < (labelsOf a.data.toList).1.length) && decide ((labelsOf a.data.toList).1.take (labelsOf b.data.toList).1.length = (labelsOf b.data.toList).1)))) := rfl
  have hne : (labelsOf b.data.toList).2 ≠ 0 → 0 < (labelsOf b.data.toList).1.length := fun h => List.length_pos_iff.2 (good_of_kind h).1.ne
  have hf1 := labels_len a.data.toList
  have hf2 := labels_len b.data.toList
  rw [hr]
  clear hr hg
  unfold LabPost at hL hL2
  generalize (labelsOf a.data.toList).1 = L at *
  generalize (labelsOf a.data.toList).2 = K at *
  generalize (labelsOf b.data.toList).1 = M at *
  generalize (labelsOf b.data.toList).2 = J at *
  by_cases h1 : K = 0
  · subst h1
    go_enter Tryd.func19, Tryd.ntmps19
    go_wp2_with (first
      | (go_at_call 32; refine hL.mono ?_; rintro e w1 ⟨ad, c, rfl, hA, hc, hb1⟩; clear hL)
      | (go_at_call 32; refine (hL2 _ (HG.out.below hb1)).mono ?_; rintro e w2 ⟨ad2, c2, rfl, hA2, hc2, hb2⟩))
    go_ret
    exact ⟨rfl, hb1.trans (hb2.mono hb1.size)⟩
  · have hz1 : (K : Int) ≠ 0 := by omega
    have hz1b : ((K : Int) != 0) = true := by simpa using h1
    by_cases h2 : K = J
    · subst h2
      by_cases h3 : M.length < L.length
      · have hz3 : (M.length : Int) < (L.length : Int) := by omega
        have hM := hne h1
        have hd : (decide (K ≠ 0) && (decide (K = K) && (decide (M.length < L.length) && decide (L.take M.length = M)))) = decide (L.take M.length = M) := by simp [h1, h3]
        rw [hd]
        clear hd hne
        go_enter Tryd.func19, Tryd.ntmps19
        go_wp2_with (first
          | (go_at_call 32; refine hL.mono ?_; rintro e w1 ⟨ad, c, rfl, hA, hc, hb1⟩; clear hL)
          | (go_at_call 32; refine (hL2 _ (HG.out.below hb1)).mono ?_; rintro e w2 ⟨ad2, c2, rfl, hA2, hc2, hb2⟩)
          | (go_at_call 37; refine (equal_any _ _ _ _ _ _ _ _ _ ((hA.below hb2).take (by omega)) hA2 (by omega) (by omega) (by omega) (by omega)).mono ?_; rintro e w3 ⟨rfl, hb3⟩))
        go_ret
        have h12 := hb1.trans (hb2.mono hb1.size)
        exact ⟨rfl, h12.trans (hb3.mono h12.size)⟩
      · have hz3 : ¬ (M.length : Int) < (L.length : Int) := by omega
        have hd : (decide (K ≠ 0) && (decide (K = K) && (decide (M.length < L.length) && decide (L.take M.length = M)))) = false := by simp [h3]
        rw [hd]
        go_enter Tryd.func19, Tryd.ntmps19
        go_wp2_with (first
          | (go_at_call 32; refine hL.mono ?_; rintro e w1 ⟨ad, c, rfl, hA, hc, hb1⟩; clear hL)
          | (go_at_call 32; refine (hL2 _ (HG.out.below hb1)).mono ?_; rintro e w2 ⟨ad2, c2, rfl, hA2, hc2, hb2⟩))
        go_ret
        exact ⟨rfl, hb1.trans (hb2.mono hb1.size)⟩
    · have hz2 : (K : Int) ≠ (J : Int) := by omega
      have hd : (decide (K ≠ 0) && (decide (K = J) && (decide (M.length < L.length) && decide (L.take M.length = M)))) = false := by simp [h2]
      rw [hd]
      go_enter Tryd.func19, Tryd.ntmps19
      go_wp2_with (first
        | (go_at_call 32; refine hL.mono ?_; rintro e w1 ⟨ad, c, rfl, hA, hc, hb1⟩; clear hL)
        | (go_at_call 32; refine (hL2 _ (HG.out.below hb1)).mono ?_; rintro e w2 ⟨ad2, c2, rfl, hA2, hc2, hb2⟩))
      go_ret
      exact ⟨rfl, hb1.trans (hb2.mono hb1.size)⟩

theorem cat_eq (a b : ByteArray) : a ++ b = ⟨(a.data.toList ++ b.data.toList).toArray⟩ := by
  apply ByteArray.ext
  rw [ByteArray.data_append]
  apply Array.ext'
  simp

theorem krbtgt_any (w : World) (s : ByteArray) (hs : s.size < 90000) :
    Calls Tryd.prog 22 #[.string s] w fun e w' => e = .returned (.string ⟨(krb ++ s.data.toList).toArray⟩) ∧ w' = w := by
  have hc : (⟨#[107, 114, 98, 116, 103, 116, 47]⟩ : ByteArray) ++ s = ⟨(krb ++ s.data.toList).toArray⟩ := cat_eq _ _
  go_enter Tryd.func22, Tryd.ntmps22
  go_wp2
  go_ret
  exact ⟨by first | rfl | (rw [← hc]; rfl), rfl⟩

theorem target_any (w : World) (s : ByteArray) (hg : Glob w) (hs : s.size < 90000) :
    Calls Tryd.prog 21 #[.string s] w fun e w' => e = .returned (.tuple #[.string ⟨(targetOf s.data.toList).1.toArray⟩, .bool (targetOf s.data.toList).2]) ∧ Below w.heap.size w w' := by
  cases hp : Lib.hasPrefix s.data.toList krb
  · have hr : targetOf s.data.toList = ([], false) := by unfold targetOf; rw [if_neg (by rw [hp]; simp)]
    rw [hr]
    have hp : Lib.hasPrefix s.data.toList [107, 114, 98, 116, 103, 116, 47] = false := hp
    go_enter Tryd.func21, Tryd.ntmps21
    go_wp2_with (go_at_call 40; refine (Tryd.strings_CutPrefix s _ _).mono ?_; rintro e w1 ⟨rfl, rfl⟩)
    go_ret2
    exact ⟨rfl, Below.refl _ _⟩
  · have ht : Lib.trimPrefix s.data.toList krb = s.data.toList.drop 7 := by unfold Lib.trimPrefix; rw [if_pos hp]; rfl
    have hI := is_any w ⟨(s.data.toList.drop 7).toArray⟩ hg (by show (s.data.toList.drop 7).toArray.size < _; simp only [List.size_toArray, List.length_drop]; have : s.data.toList.length = s.size := rfl; omega)
    have hd : (⟨(s.data.toList.drop 7).toArray⟩ : ByteArray).data.toList = s.data.toList.drop 7 := rfl
    rw [hd] at hI
    have ht2 : Lib.trimPrefix s.data.toList [107, 114, 98, 116, 103, 116, 47] = s.data.toList.drop 7 := ht
    have hp2 : Lib.hasPrefix s.data.toList [107, 114, 98, 116, 103, 116, 47] = true := hp
    cases hi : isR (s.data.toList.drop 7)
    · have hr : targetOf s.data.toList = ([], false) := by unfold targetOf; rw [if_neg (by rw [hi]; simp)]
      rw [hr]
      rw [hi] at hI
      clear hp ht hd hr hi
      generalize s.data.toList.drop 7 = t at *
      go_enter Tryd.func21, Tryd.ntmps21
      go_wp2_with (first
        | (go_at_call 40; refine (Tryd.strings_CutPrefix s _ _).mono ?_; rintro e w1 ⟨rfl, rfl⟩; rw [show (⟨#[107, 114, 98, 116, 103, 116, 47]⟩ : ByteArray).data.toList = [107, 114, 98, 116, 103, 116, 47] from rfl, ht2, hp2])
        | (go_at_call 16; refine hI.mono ?_; rintro e w2 ⟨rfl, hb⟩))
      go_ret2
      exact ⟨rfl, hb⟩
    · have hr : targetOf s.data.toList = (s.data.toList.drop 7, true) := by unfold targetOf; rw [if_pos ⟨hp, hi⟩]
      rw [hr]
      rw [hi] at hI
      clear hp ht hd hr hi
      generalize s.data.toList.drop 7 = t at *
      go_enter Tryd.func21, Tryd.ntmps21
      go_wp2_with (first
        | (go_at_call 40; refine (Tryd.strings_CutPrefix s _ _).mono ?_; rintro e w1 ⟨rfl, rfl⟩; rw [show (⟨#[107, 114, 98, 116, 103, 116, 47]⟩ : ByteArray).data.toList = [107, 114, 98, 116, 103, 116, 47] from rfl, ht2, hp2])
        | (go_at_call 16; refine hI.mono ?_; rintro e w2 ⟨rfl, hb⟩))
      go_ret2
      exact ⟨rfl, hb⟩

theorem sm_set : ∀ b : UInt8, (⟨#[97, 98, 99, 100, 101, 102, 103, 104, 105, 106, 107, 108, 109, 110, 111, 112, 113, 114, 115, 116, 117, 118, 119, 120, 121, 122, 48, 49, 50, 51, 52, 53, 54, 55, 56, 57]⟩ : ByteArray).data.toList.contains b = smB b := byte_all (by decide +kernel)

theorem princ_any (w : World) (r n : ByteArray) (hg : Glob w) (hr : r.size < 90000) (hn : n.size < 90000) :
    Calls Tryd.prog 24 #[.agg #[.string r, .string n]] w fun e w' => e = .returned (.bool (princOf r.data.toList n.data.toList)) ∧ Below w.heap.size w w' := by
  have hT := fun w hg => target_any w n hg hn
  have hI := fun w hg => is_any w r hg hr
  have hW := fun w => isWord_any w n ⟨#[97, 98, 99, 100, 101, 102, 103, 104, 105, 106, 107, 108, 109, 110, 111, 112, 113, 114, 115, 116, 117, 118, 119, 120, 121, 122, 48, 49, 50, 51, 52, 53, 54, 55, 56, 57]⟩ smB sm_set (by decide) (by decide)
  have HG := Lib.hid (hg.alloc (.cells #[.string r, .string n] 35))
  have hb0 : Below w.heap.size w (w.alloc (.cells #[.string r, .string n] 35)) := (Below.refl _ _).alloc (Nat.le_refl _) _
  have hh : (w.alloc (.cells #[.string r, .string n] 35)).heap.size = w.heap.size + 1 := by simp
  have e0 : (w.alloc (.cells #[.string r, .string n] 35)).cell? ⟨w.heap.size, 0, none⟩ = some (.string r) := (cell_of_row _ _ _ _ _ _ (heap_alloc_new w _)).trans rfl
  have e1 : (w.alloc (.cells #[.string r, .string n] 35)).cell? ⟨w.heap.size, 1, none⟩ = some (.string n) := (cell_of_row _ _ _ _ _ _ (heap_alloc_new w _)).trans rfl
  generalize hW1 : w.alloc (.cells #[.string r, .string n] 35) = W1 at *
  have keep : ∀ w2, Below W1.heap.size W1 w2 → w2.cell? ⟨w.heap.size, 0, none⟩ = some (.string r) ∧ w2.cell? ⟨w.heap.size, 1, none⟩ = some (.string n) := fun w2 hb => ⟨(hb.cell (p := ⟨w.heap.size, 0, none⟩) (by rw [hh]; exact Nat.lt_succ_self _)).trans e0, (hb.cell (p := ⟨w.heap.size, 1, none⟩) (by rw [hh]; exact Nat.lt_succ_self _)).trans e1⟩
  have KP := Lib.hid keep
  have H0 := Lib.hid hb0
  have HH := Lib.hid hh
  clear hb0 hh keep hg
  unfold princOf
  generalize isR r.data.toList = x at *
  generalize (targetOf n.data.toList).2 = y at *
  generalize (targetOf n.data.toList).1 = t at *
  generalize word smB n.data.toList = z at *
  cases x <;> cases y <;> (
    go_enter Tryd.func24, Tryd.ntmps24
    go_wp2_with (first
      | (go_at_call 21; refine (hT _ HG.out).mono ?_; rintro e w2 ⟨rfl, hb2⟩; obtain ⟨f0, f1⟩ := KP.out w2 hb2)
      | (go_at_call 16; refine (hI _ (HG.out.below hb2)).mono ?_; rintro e w3 ⟨rfl, hb3⟩; obtain ⟨k0, k1⟩ := KP.out w3 (hb2.trans (hb3.mono hb2.size)))
      | (go_at_call 41; refine (hW _).mono ?_; rintro e w4 ⟨rfl, hb4⟩)))
  all_goals
    have h3 := H0.out.trans ((hb2.trans (hb3.mono hb2.size)).mono H0.out.size)
    go_ret
    first | exact ⟨rfl, h3⟩ | exact ⟨rfl, h3.trans (hb4.mono h3.size)⟩
end Go.Proofs.YtnifihnlmanpkaaDoor
