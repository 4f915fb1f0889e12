/-
  NameLabels: the walk of the law.
-/
import Derived.Test.YtnifihnlmanpkaaDoorPrincs
import Derived.Test.YtnifihnlmanpkaaDoorUpText
set_option linter.unusedVariables false
set_option linter.unusedSimpArgs false
namespace Go.Proofs.YtnifihnlmanpkaaDoor
open Go Go.RowKit Go.Lib Go.Shelf

/-- So many labels of so many Q's. -/
def qs (n m : Nat) : List Str := List.replicate n (List.replicate m 81)
def qText (n m k : Nat) : Str := realmOf (qs n m) k

theorem qs_succ (n m : Nat) : qs (n + 1) m = qs n m ++ [List.replicate m 81] := by
  unfold qs
  rw [List.replicate_succ']
theorem qs_reverse (n m : Nat) : (qs n m).reverse = qs n m := by simp [qs]
theorem qText_zero (m k : Nat) : qText 0 m k = [] := rfl
theorem qText_oth (n m : Nat) : qText (n + 1) m 2 = qText n m 2 ++ 47 :: List.replicate m 81 := by
  unfold qText
  by_cases hn : n = 0
  · subst hn; rfl
  · have h1 : qs n m ≠ [] := by simp [qs, hn]
    have h2 : qs (n + 1) m ≠ [] := by simp [qs]
    unfold realmOf
    rw [if_neg h2, if_pos rfl, if_neg h1, if_pos rfl, qs_succ, joinOn_snoc 47 _ _ h1]
    rfl
theorem qText_dom (n m : Nat) (hn : 0 < n) : qText (n + 1) m 1 = qText n m 1 ++ 46 :: List.replicate m 81 := by
  unfold qText
  have h1 : qs n m ≠ [] := by simp [qs]; omega
  have h2 : qs (n + 1) m ≠ [] := by simp [qs]
  unfold realmOf
  rw [if_neg h2, if_neg (by decide), if_neg h1, if_neg (by decide), qs_reverse, qs_reverse, qs_succ, joinOn_snoc 46 _ _ h1]
theorem qText_one (m : Nat) : qText 1 m 1 = List.replicate m 81 := rfl
theorem qText_len (n m k : Nat) (hn : n ≤ 8) (hm : m ≤ 12) : (qText n m k).length ≤ 120 := by
  unfold qText
  by_cases h0 : n = 0
  · subst h0; simp [qs, realmOf]
  · have h1 : qs n m ≠ [] := by simp [qs, h0]
    rw [realmLen h1]
    have : ((qs n m).map fun x => x.length + 1).sum = n * (m + 1) := by simp [qs]
    rw [this]
    have h2 : n * (m + 1) ≤ 8 * 13 := Nat.mul_le_mul hn (by omega)
    split <;> omega
theorem qKind : ∀ n < 9, ∀ m < 13, kindOf (qText n m 1) = (if 1 ≤ n ∧ n ≤ 4 ∧ 1 ≤ m ∧ m ≤ 8 then 1 else 0) ∧ kindOf (qText n m 2) = (if 1 ≤ n ∧ n ≤ 4 ∧ 1 ≤ m ∧ m ≤ 8 then 2 else 0) := by decide +kernel

theorem nameLabels_out (n m kind : Int) (w : World) (hg : Glob w) (hl : n < 0 ∨ 8 < n ∨ m < 0 ∨ 12 < m ∨ kind < 1 ∨ 2 < kind) :
    Calls Tryd.prog 8 #[.int .i64 n, .int .i64 m, .int .i64 kind] w fun e w' => e = .returned (.bool true) ∧ Below w.heap.size w w' := by
  by_cases h1 : n < 0
  · clear hl
    go_enter Tryd.func8, Tryd.ntmps8
    go_wp2_with (go_at_call 14; refine (known_any _ hg).mono ?_; rintro e w2 ⟨rfl, hb⟩)
    go_ret
    exact ⟨rfl, hb⟩
  · by_cases h2 : 8 < n
    · clear hl
      go_enter Tryd.func8, Tryd.ntmps8
      go_wp2_with (go_at_call 14; refine (known_any _ hg).mono ?_; rintro e w2 ⟨rfl, hb⟩)
      go_ret
      exact ⟨rfl, hb⟩
    · by_cases h3 : m < 0
      · clear hl
        go_enter Tryd.func8, Tryd.ntmps8
        go_wp2_with (go_at_call 14; refine (known_any _ hg).mono ?_; rintro e w2 ⟨rfl, hb⟩)
        go_ret
        exact ⟨rfl, hb⟩
      · by_cases h4 : 12 < m
        · clear hl
          go_enter Tryd.func8, Tryd.ntmps8
          go_wp2_with (go_at_call 14; refine (known_any _ hg).mono ?_; rintro e w2 ⟨rfl, hb⟩)
          go_ret
          exact ⟨rfl, hb⟩
        · by_cases h5 : kind < 1
          · clear hl
            go_enter Tryd.func8, Tryd.ntmps8
            go_wp2_with (go_at_call 14; refine (known_any _ hg).mono ?_; rintro e w2 ⟨rfl, hb⟩)
            go_ret
            exact ⟨rfl, hb⟩
          · have h6 : 2 < kind := by omega
            clear hl
            go_enter Tryd.func8, Tryd.ntmps8
            go_wp2_with (go_at_call 14; refine (known_any _ hg).mono ?_; rintro e w2 ⟨rfl, hb⟩)
            go_ret
            exact ⟨rfl, hb⟩

set_option maxHeartbeats 4000000 in
theorem nameLabels_in (n m k : Nat) (w : World) (hg : Glob w) (hn : n ≤ 8) (hm : m ≤ 12) (hk : k = 1 ∨ k = 2) :
    Calls Tryd.prog 8 #[.int .i64 n, .int .i64 m, .int .i64 k] w fun e w' => e = .returned (.bool true) ∧ Below w.heap.size w w' := by
  have g1 : ¬ (n : Int) < 0 := by omega
  have g2 : ¬ 8 < (n : Int) := by omega
  have g3 : ¬ (m : Int) < 0 := by omega
  have g4 : ¬ 12 < (m : Int) := by omega
  have g5 : ¬ (k : Int) < 1 := by omega
  have g6 : ¬ 2 < (k : Int) := by omega
  have HG := Lib.hid hg
  have HK := Lib.hid hk
  clear hg hk
  go_enter Tryd.func8, Tryd.ntmps8
  go_wp2_with fail
  go_loopg [7, 8] n (fun gg s7 s8 wr => ∃ (i : Nat) (x : ByteArray), i ≤ n ∧ n - i ≤ gg ∧ s8 = .int .i64 i ∧ s7 = .string x ∧ Aside (x.data.toList = qText i m k) ∧ Aside (wr = w))
  case atStart => exact ⟨0, ⟨#[]⟩, by omega, by omega, rfl, rfl, rfl, rfl⟩
  case round =>
    obtain ⟨i, x, hi, hgg, rfl, rfl, HX, HQ⟩ := hrel
    have hq := HQ.out
    subst hq
    clear HQ
    have hxs : x.size ≤ 120 := by
      have e : x.data.toList.length = x.size := rfl
      rw [HX.out] at e
      have := qText_len i m k (by omega) hm
      omega
    by_cases hlt : i < n
    · have hltz : (i : Int) < (n : Int) := by omega
      -- the text with its separator
      obtain ⟨x1, hx1⟩ : ∃ x1 : ByteArray, x1 = (if k = 2 then x ++ ⟨#[47]⟩ else if 0 < i then x ++ ⟨#[46]⟩ else x) := ⟨_, rfl⟩
      have hx1s : x1.size ≤ 121 := by
        rw [hx1]
        split
        · rw [ByteArray.size_append]; show x.size + 1 ≤ 121; omega
        · split
          · rw [ByteArray.size_append]; show x.size + 1 ≤ 121; omega
          · omega
      have hx1d : x1.data.toList ++ List.replicate m 81 = qText (i + 1) m k := by
        rw [hx1]
        rcases HK.out with hk | hk
        · subst hk
          rw [if_neg (by decide)]
          by_cases h0 : 0 < i
          · rw [if_pos h0, ByteArray.data_append, Array.toList_append, HX.out, qText_dom i m h0]
            simp
          · have : i = 0 := by omega
            subst this
            rw [if_neg h0, HX.out]
            rfl
        · subst hk
          rw [if_pos rfl, ByteArray.data_append, Array.toList_append, HX.out, qText_oth]
          simp
      have HX1 := Lib.hid hx1
      have HX1D := Lib.hid hx1d
      clear hx1 hx1d
      go_upto_if 43 with (fail)
      go_cut [7] from 44 to 49 (fun v7 wx => v7 = .string x1 ∧ wx = wr)
      case first =>
        rcases HK.out with hk | hk
        · subst hk
          by_cases h0 : 0 < i
          · have h0z : (0 : Int) < (i : Int) := by omega
            have hx1 : x1 = x ++ ⟨#[46]⟩ := by rw [HX1.out, if_neg (by decide), if_pos h0]
            subst hx1
            clear HX1
            go_wp2
            go_meet
            exact ⟨rfl, rfl⟩
          · have h0z : ¬ (0 : Int) < (i : Int) := by omega
            have hx1 : x1 = x := by rw [HX1.out, if_neg (by decide), if_neg h0]
            subst hx1
            clear HX1
            go_wp2
            go_meet
            exact ⟨rfl, rfl⟩
        · subst hk
          have hx1 : x1 = x ++ ⟨#[47]⟩ := by rw [HX1.out, if_pos rfl]
          subst hx1
          clear HX1
          go_wp2
          go_meet
          exact ⟨rfl, rfl⟩
      case rest =>
        obtain ⟨rfl, rfl⟩ := hcut
        clear HX1
        go_wp2_with fail
        go_loopg [7, 9] m (fun gg s7 s9 wr2 => ∃ (q : Nat) (z : ByteArray), q ≤ m ∧ m - q ≤ gg ∧ s9 = .int .i64 q ∧ s7 = .string z ∧ Aside (z.data.toList = x1.data.toList ++ List.replicate q 81) ∧ Aside (wr2 = wc))
        case atStart => exact ⟨0, x1, by omega, by omega, rfl, rfl, by show x1.data.toList = x1.data.toList ++ []; simp, rfl⟩
        case round =>
          obtain ⟨q, z, hq, hgg2, rfl, rfl, HZ, HQ2⟩ := hrel
          have hq2 := HQ2.out
          subst hq2
          clear HQ2
          have hzs : z.size ≤ 140 := by
            have e : z.data.toList.length = z.size := rfl
            have e2 : x1.data.toList.length = x1.size := rfl
            rw [HZ.out, List.length_append, List.length_replicate] at e
            omega
          by_cases hql : q < m
          · have hqz : (q : Int) < (m : Int) := by omega
            go_wp2
            go_roundg (m - (q + 1))
            case measure => omega
            case rel =>
              refine ⟨q + 1, z ++ ⟨#[81]⟩, by omega, by omega, by go_num, rfl, ?_, rfl⟩
              show (z ++ ⟨#[81]⟩).data.toList = _
              rw [ByteArray.data_append, Array.toList_append, HZ.out, List.replicate_succ', List.append_assoc]
          · have hqz : ¬ (q : Int) < (m : Int) := by omega
            have hqm : q = m := by omega
            have hzd : z.data.toList = qText (i + 1) m k := by rw [HZ.out, hqm]; exact HX1D.out
            have HZD := Lib.hid hzd
            clear hzd hqm
            go_wp2
            go_roundg (n - (i + 1))
            case measure => omega
            case rel => exact ⟨i + 1, z, by omega, by omega, by go_num, rfl, HZD.out, rfl⟩
    · have hltz : ¬ (i : Int) < (n : Int) := by omega
      have hin : i = n := by omega
      have hxd : x.data.toList = qText n m k := by rw [HX.out, hin]
      have hkind : kindOf x.data.toList = (if 1 ≤ n ∧ n ≤ 4 ∧ 1 ≤ m ∧ m ≤ 8 then k else 0) := by
        rw [hxd]
        have := qKind n (by omega) m (by omega)
        rcases HK.out with h | h
        · subst h; exact this.1
        · subst h; exact this.2
      have sx : x.size < 90000 := by omega
      have sk : (⟨(krb ++ x.data.toList).toArray⟩ : ByteArray).size < 90000 := by
        show (krb ++ x.data.toList).toArray.size < _
        have e : x.data.toList.length = x.size := rfl
        simp [krb]; omega
      have htk := target_krb x.data.toList
      have htk2 : targetOf (⟨(krb ++ x.data.toList).toArray⟩ : ByteArray).data.toList = if isR x.data.toList = true then (x.data.toList, true) else ([], false) := htk
      have hpr : princOf x.data.toList (⟨#[97]⟩ : ByteArray).data.toList = isR x.data.toList := by
        have hw : word smB (⟨#[97]⟩ : ByteArray).data.toList = true := by decide
        unfold princOf
        rw [hw]
        simp
      have acc : Below wr.heap.size wr wr := Below.refl _ _
      clear hin hxd htk
      by_cases hgood : 1 ≤ n ∧ n ≤ 4 ∧ 1 ≤ m ∧ m ≤ 8
      · rw [if_pos hgood] at hkind
        have hir : isR x.data.toList = true := by
          unfold isR
          rw [hkind]
          rcases HK.out with h | h <;> rw [h] <;> rfl
        rw [hir, if_pos rfl] at htk2
        rw [hir] at hpr
        obtain ⟨q1, q2, q3, q4⟩ := hgood
        have r1 : 1 ≤ (n : Int) := by omega
        have r2 : (n : Int) ≤ 4 := by omega
        have r3 : 1 ≤ (m : Int) := by omega
        have r4 : (m : Int) ≤ 8 := by omega
        clear hir q1 q2 q3 q4
        go_wp2_with (first
        | (go_at_call 22; refine (krbtgt_any _ x sx).mono ?_; rintro e w2 ⟨rfl, rfl⟩)
        | (go_at_call 21; refine (target_any _ ⟨(krb ++ x.data.toList).toArray⟩ (HG.out.below acc) sk).mono ?_; rintro e w2 ⟨rfl, hb⟩; rw [htk2]; replace acc := acc.trans (hb.mono acc.size); clear hb)
        | (go_at_call 23; refine (kind_any _ x (HG.out.below acc) sx).mono ?_; rintro e w2 ⟨rfl, hb⟩; rw [hkind]; replace acc := acc.trans (hb.mono acc.size); clear hb)
        | (go_at_call 24; refine (princ_any _ x ⟨#[97]⟩ (HG.out.below acc) sx (by decide)).mono ?_; rintro e w2 ⟨rfl, hb⟩; rw [hpr]; replace acc := acc.trans (hb.mono acc.size); clear hb)
        | (go_at_call 14; refine (known_any _ (HG.out.below acc)).mono ?_; rintro e w2 ⟨rfl, hb⟩; replace acc := acc.trans (hb.mono acc.size); clear hb))
        go_ret
        exact ⟨rfl, acc⟩
      · rw [if_neg hgood] at hkind
        have hir : isR x.data.toList = false := by
          unfold isR
          rw [hkind]
          rfl
        rw [hir, if_neg (by decide)] at htk2
        rw [hir] at hpr
        clear hir
        by_cases r1 : 1 ≤ (n : Int)
        · by_cases r2 : (n : Int) ≤ 4
          · by_cases r3 : 1 ≤ (m : Int)
            · have r4 : ¬ (m : Int) ≤ 8 := by omega
              clear hgood
              go_wp2_with (first
        | (go_at_call 22; refine (krbtgt_any _ x sx).mono ?_; rintro e w2 ⟨rfl, rfl⟩)
        | (go_at_call 21; refine (target_any _ ⟨(krb ++ x.data.toList).toArray⟩ (HG.out.below acc) sk).mono ?_; rintro e w2 ⟨rfl, hb⟩; rw [htk2]; replace acc := acc.trans (hb.mono acc.size); clear hb)
        | (go_at_call 23; refine (kind_any _ x (HG.out.below acc) sx).mono ?_; rintro e w2 ⟨rfl, hb⟩; rw [hkind]; replace acc := acc.trans (hb.mono acc.size); clear hb)
        | (go_at_call 24; refine (princ_any _ x ⟨#[97]⟩ (HG.out.below acc) sx (by decide)).mono ?_; rintro e w2 ⟨rfl, hb⟩; rw [hpr]; replace acc := acc.trans (hb.mono acc.size); clear hb)
        | (go_at_call 14; refine (known_any _ (HG.out.below acc)).mono ?_; rintro e w2 ⟨rfl, hb⟩; replace acc := acc.trans (hb.mono acc.size); clear hb))
              go_ret
              exact ⟨rfl, acc⟩
            · clear hgood
              go_wp2_with (first
        | (go_at_call 22; refine (krbtgt_any _ x sx).mono ?_; rintro e w2 ⟨rfl, rfl⟩)
        | (go_at_call 21; refine (target_any _ ⟨(krb ++ x.data.toList).toArray⟩ (HG.out.below acc) sk).mono ?_; rintro e w2 ⟨rfl, hb⟩; rw [htk2]; replace acc := acc.trans (hb.mono acc.size); clear hb)
        | (go_at_call 23; refine (kind_any _ x (HG.out.below acc) sx).mono ?_; rintro e w2 ⟨rfl, hb⟩; rw [hkind]; replace acc := acc.trans (hb.mono acc.size); clear hb)
        | (go_at_call 24; refine (princ_any _ x ⟨#[97]⟩ (HG.out.below acc) sx (by decide)).mono ?_; rintro e w2 ⟨rfl, hb⟩; rw [hpr]; replace acc := acc.trans (hb.mono acc.size); clear hb)
        | (go_at_call 14; refine (known_any _ (HG.out.below acc)).mono ?_; rintro e w2 ⟨rfl, hb⟩; replace acc := acc.trans (hb.mono acc.size); clear hb))
              go_ret
              exact ⟨rfl, acc⟩
          · clear hgood
            go_wp2_with (first
        | (go_at_call 22; refine (krbtgt_any _ x sx).mono ?_; rintro e w2 ⟨rfl, rfl⟩)
        | (go_at_call 21; refine (target_any _ ⟨(krb ++ x.data.toList).toArray⟩ (HG.out.below acc) sk).mono ?_; rintro e w2 ⟨rfl, hb⟩; rw [htk2]; replace acc := acc.trans (hb.mono acc.size); clear hb)
        | (go_at_call 23; refine (kind_any _ x (HG.out.below acc) sx).mono ?_; rintro e w2 ⟨rfl, hb⟩; rw [hkind]; replace acc := acc.trans (hb.mono acc.size); clear hb)
        | (go_at_call 24; refine (princ_any _ x ⟨#[97]⟩ (HG.out.below acc) sx (by decide)).mono ?_; rintro e w2 ⟨rfl, hb⟩; rw [hpr]; replace acc := acc.trans (hb.mono acc.size); clear hb)
        | (go_at_call 14; refine (known_any _ (HG.out.below acc)).mono ?_; rintro e w2 ⟨rfl, hb⟩; replace acc := acc.trans (hb.mono acc.size); clear hb))
            go_ret
            exact ⟨rfl, acc⟩
        · clear hgood
          go_wp2_with (first
        | (go_at_call 22; refine (krbtgt_any _ x sx).mono ?_; rintro e w2 ⟨rfl, rfl⟩)
        | (go_at_call 21; refine (target_any _ ⟨(krb ++ x.data.toList).toArray⟩ (HG.out.below acc) sk).mono ?_; rintro e w2 ⟨rfl, hb⟩; rw [htk2]; replace acc := acc.trans (hb.mono acc.size); clear hb)
        | (go_at_call 23; refine (kind_any _ x (HG.out.below acc) sx).mono ?_; rintro e w2 ⟨rfl, hb⟩; rw [hkind]; replace acc := acc.trans (hb.mono acc.size); clear hb)
        | (go_at_call 24; refine (princ_any _ x ⟨#[97]⟩ (HG.out.below acc) sx (by decide)).mono ?_; rintro e w2 ⟨rfl, hb⟩; rw [hpr]; replace acc := acc.trans (hb.mono acc.size); clear hb)
        | (go_at_call 14; refine (known_any _ (HG.out.below acc)).mono ?_; rintro e w2 ⟨rfl, hb⟩; replace acc := acc.trans (hb.mono acc.size); clear hb))
          go_ret
          exact ⟨rfl, acc⟩

theorem nameLabels_walk (n m kind : Int) (_ : (Lit.int .i64 n).wf = true) (_ : (Lit.int .i64 m).wf = true) (_ : (Lit.int .i64 kind).wf = true) (w : World) (hg : Glob w) :
    Calls Tryd.prog 8 #[.int .i64 n, .int .i64 m, .int .i64 kind] w fun e w' => e = .returned (.bool true) ∧ Below w.heap.size w w' := by
  by_cases h : n < 0 ∨ 8 < n ∨ m < 0 ∨ 12 < m ∨ kind < 1 ∨ 2 < kind
  · exact nameLabels_out n m kind w hg h
  · obtain ⟨n', rfl⟩ := Int.eq_ofNat_of_zero_le (show 0 ≤ n by omega)
    obtain ⟨m', rfl⟩ := Int.eq_ofNat_of_zero_le (show 0 ≤ m by omega)
    obtain ⟨k', rfl⟩ := Int.eq_ofNat_of_zero_le (show 0 ≤ kind by omega)
    exact nameLabels_in n' m' k' w hg (by omega) (by omega) (by omega)
end Go.Proofs.YtnifihnlmanpkaaDoor
