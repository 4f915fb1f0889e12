/-
  legateref5.Between.
-/
import Derived.Test.YtcleonpckgfdhaaGreatDoorRefUnder
import Derived.Test.YtcleonpckgfdhaaGreatDoorApp2
import Derived.Test.YtcleonpckgfdhaaGreatDoorTops
set_option linter.unusedVariables false
set_option linter.unusedSimpArgs false
namespace Go.Proofs.YtcleonpckgfdhaaGreatDoor
open Go Go.RowKit Go.Lib Go.Shelf

section
variable {a b : Str} {L M : List Str} {K J c : Nat}

theorem Pair.eq_b (h : Pair a b L M K J c) {i : Nat} (h1 : 1 ≤ i) (h2 : i ≤ L.length) : realmOf (L.take i) K = b ↔ i ≤ c ∧ i = M.length := by
  have hM1 : 1 ≤ M.length := List.length_pos_iff.2 h.gb.ne
  constructor
  · intro e
    rw [← h.eb, ← anc_all M J] at e
    have := h.meet h1 h2 hM1 (Nat.le_refl _) e
    omega
  · rintro ⟨h3, h4⟩
    rw [h.take h3, h.kind (by omega), h4, List.take_length]
    exact h.eb

theorem Pair.under_b (h : Pair a b L M K J c) {i : Nat} (h1 : 1 ≤ i) (h2 : i ≤ L.length) : underOf b (realmOf (L.take i) K) = decide (i ≤ c ∧ i < M.length) := by
  have hg := h.ga.take (j := i) (by omega)
  have hl : (L.take i).length = i := by simp; omega
  rw [← h.eb]
  unfold underOf
  rw [kind_realm h.gb, kind_realm hg, labels_realm h.gb, labels_realm hg, hl]
  rw [Bool.eq_iff_iff]
  simp only [Bool.and_eq_true, decide_eq_true_eq]
  constructor
  · rintro ⟨_, e1, h3, h4⟩
    refine ⟨?_, h3⟩
    have hs := h.same
    rw [if_pos e1.symm] at hs
    rw [hs]
    exact comLen_of_take _ _ _ h2 (by omega) h4.symm
  · rintro ⟨h3, h4⟩
    exact ⟨h.gb.kind_ne, (h.kind (by omega)).symm, h4, (h.take h3).symm⟩

/-- What the first loop has laid, at L's first i labels. -/
def upList (L M : List Str) (K c i : Nat) : List Str := if c < i then ups L K (i - 1) else ups L K c ++ mid L M K c
theorem upList_start (L M : List Str) (K c : Nat) (hc : c ≤ L.length) : upList L M K c L.length = [] := by
  unfold upList
  split
  · exact ups_end L K
  · have : c = L.length := by omega
    subst this
    unfold ups mid
    rw [show L.length - 1 - L.length = 0 by omega, if_neg (by omega)]
    rfl
theorem upList_next (h : Pair a b L M K J c) {i : Nat} (h1 : max c 1 < i) (h2 : i ≤ L.length) : upList L M K c (i - 1) = if realmOf (L.take (i - 1)) K = b then upList L M K c i else upList L M K c i ++ [realmOf (L.take (i - 1)) K] := by
  have hi : upList L M K c i = ups L K (i - 1) := by unfold upList; rw [if_pos (by omega)]
  rw [hi]
  have hle := h.le
  by_cases hc : c < i - 1
  · have e : ¬ realmOf (L.take (i - 1)) K = b := by rw [h.eq_b (by omega) (by omega)]; omega
    rw [if_neg e]
    unfold upList
    rw [if_pos hc]
    have := ups_next L K (i - 1 - 1) (by omega)
    rw [show i - 1 - 1 + 1 = i - 1 by omega] at this
    exact this
  · have hci : c = i - 1 := by omega
    unfold upList
    rw [if_neg hc, ← hci]
    by_cases e : realmOf (L.take c) K = b
    · rw [if_pos e]
      have := (h.eq_b (by omega) (by omega)).1 e
      unfold mid
      rw [if_neg (by omega)]
      simp
    · rw [if_neg e]
      have hM : c < M.length := by
        rcases Nat.lt_or_ge c M.length with h3 | h3
        · exact h3
        · exact absurd ((h.eq_b (by omega) (by omega)).2 ⟨Nat.le_refl _, by omega⟩) e
      unfold mid
      rw [if_pos ⟨by omega, by omega, hM⟩]
theorem upList_end (h : Pair a b L M K J c) : upList L M K c (max c 1) = ups L K c ++ mid L M K c := by
  unfold upList
  split
  · have : c = 0 := by omega
    subst this
    unfold mid
    rw [if_neg (by omega)]
    simp
  · rfl
theorem downs_all (M : List Str) (J : Nat) : downs M J M.length = [] := by unfold downs; rw [Nat.sub_self]; rfl
theorem downs_next (M : List Str) (J j : Nat) (h : j < M.length) : downs M J j = realmOf (M.take j) J :: downs M J (j + 1) := by
  unfold downs
  rw [show M.length - j = (M.length - (j + 1)) + 1 by omega, List.range_succ_eq_map, List.map_cons, List.map_map]
  congr 1
  apply List.map_congr_left
  intro i _
  simp only [Function.comp]
  congr 2
  omega
end

theorem betOf_self (a : Str) : betOf a a = [] := by
  by_cases h : kindOf a = 0
  · unfold betOf; rw [if_pos (.inl h)]
  · rw [betOf_eq h h]
    have hs : sameLen a a = (labelsOf a).1.length := by
      unfold sameLen
      rw [if_pos rfl]
      have := comLen_le (labelsOf a).1 (labelsOf a).1
      have := comLen_of_take (labelsOf a).1 (labelsOf a).1 _ (Nat.le_refl _) (Nat.le_refl _) rfl
      omega
    rw [hs]
    unfold ups mid downs
    rw [if_neg (by omega), show (labelsOf a).1.length - 1 - (labelsOf a).1.length = 0 by omega, show (labelsOf a).1.length - ((labelsOf a).1.length + 1) = 0 by omega]
    rfl

theorem refbet_none (w : World) (a b : ByteArray) (sa : a.size < 90000) (sb : b.size < 90000) (hl : isR a.data.toList = false ∨ isR b.data.toList = false ∨ a.data.toList = b.data.toList) :
    Calls Tryz.prog 28 #[.string a, .string b] w fun e w' => BetPost w w' a.data.toList b.data.toList e := by
  have acc : Below w.heap.size w w := Below.refl _ _
  have hn : betOf a.data.toList b.data.toList = [] := by
    rcases hl with h | h | h
    · exact betOf_none (.inl (isR_none h))
    · exact betOf_none (.inr (isR_none h))
    · rw [h]; exact betOf_self _
  have HN := Lib.hid hn
  clear hn
  have hend : ∀ w', Below w.heap.size w w' → BetPost w w' a.data.toList b.data.toList (.returned (.slice none 0 0)) := fun w' hb => ⟨none, 0, by rw [HN.out]; rfl, by rw [HN.out]; exact World.ownsRow_nil _ _ _ _, hb⟩
  have HEN := Lib.hid hend
  clear hend
  cases hx : isR a.data.toList with
  | false =>
    clear hl
    go_enter Tryz.func28, Tryz.ntmps28
    go_wp2_with (go_at_call 32; refine (refis_any _ _ (by assumption)).mono ?_; rintro e w2 ⟨rfl, hb⟩; replace acc := acc.trans (hb.mono acc.size); clear hb)
    go_ret
    exact HEN.out _ acc
  | true =>
    cases hy : isR b.data.toList with
    | false =>
      clear hl
      go_enter Tryz.func28, Tryz.ntmps28
      go_wp2_with (go_at_call 32; refine (refis_any _ _ (by assumption)).mono ?_; rintro e w2 ⟨rfl, hb⟩; replace acc := acc.trans (hb.mono acc.size); clear hb)
      go_ret
      exact HEN.out _ acc
    | true =>
      have he : a.data.toList = b.data.toList := by
        rcases hl with h | h | h
        · rw [h] at hx; cases hx
        · rw [h] at hy; cases hy
        · exact h
      have hq := eq_text a b
      rw [decide_eq_true he] at hq
      clear hl he
      go_enter Tryz.func28, Tryz.ntmps28
      go_wp2_with (go_at_call 32; refine (refis_any _ _ (by assumption)).mono ?_; rintro e w2 ⟨rfl, hb⟩; replace acc := acc.trans (hb.mono acc.size); clear hb)
      go_ret
      exact HEN.out _ acc
set_option maxHeartbeats 8000000 in
set_option maxRecDepth 1000000 in
theorem refbet_some (w : World) (a b : ByteArray) (sa : a.size < 90000) (sb : b.size < 90000) (L M : List Str) (K J c : Nat) (hP : Pair a.data.toList b.data.toList L M K J c) (hne : a.data.toList ≠ b.data.toList) (hx : isR a.data.toList = true) (hy : isR b.data.toList = true)
    (hR : betOf a.data.toList b.data.toList = ups L K c ++ (mid L M K c ++ downs M J (c + 1))) :
    Calls Tryz.prog 28 #[.string a, .string b] w fun e w' => BetPost w w' a.data.toList b.data.toList e := by
  have hL1 : 1 ≤ L.length := List.length_pos_iff.2 hP.ga.ne
  have hM1 : 1 ≤ M.length := List.length_pos_iff.2 hP.gb.ne
  have hL4 := hP.ga.few
  have hM4 := hP.gb.few
  obtain ⟨hcL, hcM⟩ := hP.le
  have hul : ∀ i, (upList L M K c i).length ≤ 10 := fun i => by
    unfold upList
    split
    · rw [ups_length]; omega
    · rw [List.length_append, ups_length]
      unfold mid
      split <;> simp <;> omega
  have hdl : ∀ j, (downs M J j).length ≤ 10 := fun j => by unfold downs; simp; omega
  have hqab := eq_text a b
  rw [decide_eq_false hne] at hqab
  obtain ⟨R, hRR⟩ : ∃ R, R = ups L K c ++ (mid L M K c ++ downs M J (c + 1)) := ⟨_, rfl⟩
  rw [← hRR] at hR
  have HR := Lib.hid hRR
  have HBT := Lib.hid hR
  have HP := Lib.hid hP
  have hda : a.data.toList = realmOf (L.take L.length) K := by rw [List.take_length]; exact hP.ea.symm
  have hdb : b.data.toList = realmOf (M.take M.length) J := by rw [List.take_length]; exact hP.eb.symm
  have HDA := Lib.hid hda
  have HDB := Lib.hid hdb
  clear hP hR hRR hda hdb hne
  have acc : Below w.heap.size w w := Below.refl _ _
  go_enter Tryz.func28, Tryz.ntmps28
  go_upto_block 0 with (go_at_call 32; refine (refis_any _ _ (by assumption)).mono ?_; rintro e w2 ⟨rfl, hb⟩; replace acc := acc.trans (hb.mono acc.size); clear hb)
  go_cut [5, 6] from 23 to 45 (fun v5 v6 wx => ∃ (t : ByteArray) (ad : Option Addr) (cc : Nat), v6 = .string t ∧ v5 = .slice ad (upList L M K c (max c 1)).length cc ∧ Aside (t.data.toList = realmOf (L.take (max c 1)) K) ∧ Aside (wx.ownsRow w.heap.size 9 1 (.slice ad (upList L M K c (max c 1)).length cc) (upList L M K c (max c 1)).length (strs (upList L M K c (max c 1)))) ∧ Aside (Below w.heap.size w wx))
  case first =>
    go_wp2_with fail
    go_loopg [5, 6] L.length (fun gg s5 s6 wr => ∃ (i : Nat) (t : ByteArray) (ad : Option Addr) (cc : Nat), max c 1 ≤ i ∧ i ≤ L.length ∧ i ≤ gg ∧ s6 = .string t ∧ s5 = .slice ad (upList L M K c i).length cc ∧ Aside (t.data.toList = realmOf (L.take i) K) ∧ Aside (wr.ownsRow w.heap.size 9 1 (.slice ad (upList L M K c i).length cc) (upList L M K c i).length (strs (upList L M K c i))) ∧ Aside (Below w.heap.size w wr))
    case atStart => exact ⟨L.length, a, none, 0, by omega, Nat.le_refl _, Nat.le_refl _, rfl, by rw [upList_start L M K c hcL]; rfl, HDA.out, by have h := World.ownsRow_nil w2 w.heap.size 9 1; rw [upList_start L M K c hcL]; exact h, acc⟩
    case round =>
      obtain ⟨i, t, ad, cc, hi1, hi2, hgg, rfl, rfl, HT, HO, HB⟩ := hrel
      replace acc := HB.out
      have ho := HO.out
      have st : t.size < 90000 := anc_size HP.out.ga (by omega) hi2 HT.out HP.out.ea sa
      have hu := HP.out.under_b (i := i) (by omega) hi2
      rw [← HT.out] at hu
      have hq := eq_text t b
      have hqb := HP.out.eq_b (i := i) (by omega) hi2
      rw [← HT.out] at hqb
      obtain ⟨hmore, hlast⟩ := up_step HP.out.ga (by omega) hi2 HT.out
      have hn10 := hul i
      by_cases him : max c 1 < i
      · obtain ⟨t', hup, ht', hte⟩ := hmore (by omega)
        rw [decide_eq_false (by rw [hqb]; omega)] at hq
        rw [decide_eq_false (by omega)] at hu
        have hnx := upList_next HP.out him hi2
        rw [← ht'] at hnx
        have HT' := Lib.hid ht'
        have hq' := eq_text t' b
        obtain ⟨U, hU⟩ : ∃ U, U = upList L M K c i := ⟨_, rfl⟩
        rw [← hU] at ho hnx hn10 ⊢
        clear hmore hlast hqb ht' hU HO
        by_cases e : t'.data.toList = b.data.toList
        · rw [if_pos e] at hnx
          rw [decide_eq_true e] at hq'
          have HNX := Lib.hid hnx
          clear e hnx
          go_wp2_with (first
            | (go_at_call 43; refine (refunder_any _ b t sb st).mono ?_; rintro e w2 ⟨rfl, hb⟩; rw [hu]; replace acc := acc.trans (hb.mono acc.size); replace ho := own_below ho hb; clear hb)
            | (go_at_call 44; refine (refup_any _ t st).mono ?_; rintro e w2 ⟨rfl, hb⟩; rw [hup]; replace acc := acc.trans (hb.mono acc.size); replace ho := own_below ho hb; clear hb))
          go_roundg (i - 1)
          case measure => omega
          case rel => exact ⟨i - 1, t', ad, cc, by omega, by omega, by omega, rfl, by rw [HNX.out], HT'.out, by rw [HNX.out]; exact ho, acc⟩
        · rw [if_neg e] at hnx
          rw [decide_eq_false e] at hq'
          have HNX := Lib.hid hnx
          clear e hnx
          go_wp2_with (first
            | (go_at_call 43; refine (refunder_any _ b t sb st).mono ?_; rintro e w2 ⟨rfl, hb⟩; rw [hu]; replace acc := acc.trans (hb.mono acc.size); replace ho := own_below ho hb; clear hb)
            | (go_at_call 44; refine (refup_any _ t st).mono ?_; rintro e w2 ⟨rfl, hb⟩; rw [hup]; replace acc := acc.trans (hb.mono acc.size); replace ho := own_below ho hb; clear hb)
            | (at_builtin; refine wpList_append_text _ rfl (.tmp 42) (.tmp 44) rfl w.heap.size ad U.length cc U rfl (ho.alloc _) w2.heap.size t'.data.toList rfl (heap_alloc_new _ _) (by omega) (Nat.le_trans acc.size (by simp)) ?_; intro g7 cap7 w7 hown7 hb7; replace acc := (acc.alloc acc.size _).trans hb7; clear ho hb7))
          go_roundg (i - 1)
          case measure => omega
          case rel =>
            have hle : (upList L M K c (i - 1)).length = U.length + 1 := by rw [HNX.out]; simp
            exact ⟨i - 1, t', some ⟨g7, 0, none⟩, cap7, by omega, by omega, by omega, rfl, by rw [hle], HT'.out, by rw [hle, HNX.out, HT'.out]; rw [← HT'.out]; exact hown7, acc⟩
      · have hi' : i = max c 1 := by omega
        subst hi'
        by_cases hcM' : 1 ≤ c ∧ c = M.length
        · rw [decide_eq_true (hqb.2 (by omega))] at hq
          clear hmore hlast hqb hu
          go_wp2
          go_meet
          case rel => exact ⟨t, ad, cc, rfl, rfl, HT.out, HO.out, acc⟩
        · rw [decide_eq_false (by rw [hqb]; omega)] at hq
          by_cases hc1 : 1 ≤ c
          · rw [decide_eq_true (by omega)] at hu
            clear hmore hlast hqb
            go_wp2_with (go_at_call 43; refine (refunder_any _ b t sb st).mono ?_; rintro e w2 ⟨rfl, hb⟩; rw [hu]; replace acc := acc.trans (hb.mono acc.size); replace ho := own_below ho hb; clear hb)
            go_meet
            case rel => exact ⟨t, ad, cc, rfl, by rw [show max c 1 = c by omega], HT.out, ho, acc⟩
          · rw [decide_eq_false (by omega)] at hu
            have hup := hlast (by omega)
            clear hmore hlast hqb
            go_wp2_with (first
              | (go_at_call 43; refine (refunder_any _ b t sb st).mono ?_; rintro e w2 ⟨rfl, hb⟩; rw [hu]; replace acc := acc.trans (hb.mono acc.size); replace ho := own_below ho hb; clear hb)
              | (go_at_call 44; refine (refup_any _ t st).mono ?_; rintro e w2 ⟨rfl, hb⟩; rw [hup]; replace acc := acc.trans (hb.mono acc.size); replace ho := own_below ho hb; clear hb))
            go_meet
            case rel => exact ⟨t, ad, cc, rfl, rfl, HT.out, ho, acc⟩
  case rest =>
    obtain ⟨t, ad1, c1, rfl, rfl, HT, HL, HC⟩ := hcut
    have accC := Lib.hid HC.out
    have hsc : w.heap.size ≤ wc.heap.size := HC.out.size
    have hU0 : upList L M K c (max c 1) = ups L K c ++ mid L M K c := upList_end HP.out
    have hu10 := hul (max c 1)
    obtain ⟨U, hU⟩ : ∃ U, U = upList L M K c (max c 1) := ⟨_, rfl⟩
    rw [← hU] at HL hu10 hU0 ⊢
    have hoL := Lib.hid HL.out
    have HU := Lib.hid hU0
    have hupb := up_of_good HP.out.gb
    rw [HP.out.eb] at hupb
    obtain ⟨r0, hr0⟩ : ∃ r0 : ByteArray, (⟨(upOf b.data.toList).toArray⟩ : ByteArray) = r0 := ⟨_, rfl⟩
    have hr0d : r0.data.toList = realmOf (M.take (M.length - 1)) J := by rw [← hr0, ← hupb]
    have HR0 := Lib.hid hr0d
    have hqt := eq_text t b
    have hqtb := HP.out.eq_b (i := max c 1) (by omega) (by omega)
    rw [← HT.out] at hqtb
    have hqq : (t.toList == b.toList) = decide (1 ≤ c ∧ c = M.length) := by
      rw [hqt, Bool.eq_iff_iff, decide_eq_true_iff, decide_eq_true_iff, hqtb]
      omega
    replace acc : Below w.heap.size w wc := HC.out
    clear hU HL hU0 hupb hr0d hqt hqtb
    go_wp2_with (go_at_call 44; refine (refup_any _ b sb).mono ?_; rintro e w3 ⟨rfl, hb⟩; rw [hr0])
    have hb3 : Below wc.heap.size wc w3 := hb
    go_loopg [7, 8] M.length (fun gg s7 s8 wr => ∃ (j : Nat) (r : ByteArray) (ad2 : Option Addr) (c2 : Nat), j < M.length ∧ (c ≤ j ∨ (c = M.length ∧ j + 1 = M.length)) ∧ j ≤ gg ∧ s8 = .string r ∧ s7 = .slice ad2 (downs M J (j + 1)).length c2 ∧ Aside (r.data.toList = realmOf (M.take j) J) ∧ Aside (wr.ownsRow wc.heap.size 9 1 (.slice ad2 (downs M J (j + 1)).length c2) (downs M J (j + 1)).length (strs (downs M J (j + 1)))) ∧ Aside (Below wc.heap.size wc wr ∧ wc.heap.size ≤ wr.heap.size))
    case atStart => exact ⟨M.length - 1, r0, none, 0, by omega, by omega, by omega, rfl, by rw [show M.length - 1 + 1 = M.length by omega, downs_all]; rfl, HR0.out, by have h := World.ownsRow_nil w3 wc.heap.size 9 1; rw [show M.length - 1 + 1 = M.length by omega, downs_all]; exact h, hb3, hb3.size⟩
    case round =>
      obtain ⟨j, r, ad2, c2, hj1, hj2, hgg, rfl, rfl, HRd, HO, HB⟩ := hrel
      have hd10 := hdl (j + 1)
      by_cases hcM' : 1 ≤ c ∧ c = M.length
      · rw [decide_eq_true hcM'] at hqq
        go_wp2_with (at_builtin; refine wpList_append_texts _ rfl (.tmp 66) (.tmp 67) rfl w.heap.size ad1 U.length c1 U rfl (own_below hoL.out HB.out.1) ad2 (downs M J (j + 1)).length c2 (downs M J (j + 1)) rfl (At.owns HO.out) (by omega) (by omega) (Nat.le_trans hsc HB.out.2) ?_; intro ad6 cap6 w6 hown6 hb6)
        have hj' : j = c ∨ c = M.length := by omega
        have hD : downs M J (j + 1) = downs M J (c + 1) := by
          rcases hj' with h | h
          · rw [h]
          · rw [show j + 1 = M.length by omega, downs_all]
            unfold downs
            rw [show M.length - (c + 1) = 0 by omega]
            rfl
        have hRR : R = U ++ downs M J (j + 1) := by rw [hD, HU.out, HR.out, List.append_assoc]
        have hRl : R.length = U.length + (downs M J (j + 1)).length := by rw [hRR, List.length_append]
        go_ret
        unfold BetPost
        rw [HBT.out]
        refine ⟨ad6, cap6, by rw [hRl]; rfl, by rw [hRl, hRR]; exact hown6, ?_⟩
        exact (accC.out.trans (HB.out.1.mono hsc)).trans hb6
      · rw [decide_eq_false hcM'] at hqq
        by_cases hj0 : j = 0
        · have hre : r.toList.isEmpty = true := by
            rw [toList_data, HRd.out, hj0]
            rfl
          have hre2 : r.toList = [] := by simpa using hre
          have HJ0 := Lib.hid hj0
          clear hre hj0
          go_wp2_with (at_builtin; refine wpList_append_texts _ rfl (.tmp 66) (.tmp 67) rfl w.heap.size ad1 U.length c1 U rfl (own_below hoL.out HB.out.1) ad2 (downs M J (j + 1)).length c2 (downs M J (j + 1)) rfl (At.owns HO.out) (by omega) (by omega) (Nat.le_trans hsc HB.out.2) ?_; intro ad6 cap6 w6 hown6 hb6)
          have hj' : j = c ∨ c = M.length := by have := HJ0.out; omega
          have hD : downs M J (j + 1) = downs M J (c + 1) := by
            rcases hj' with h | h
            · rw [h]
            · rw [show j + 1 = M.length by omega, downs_all]
              unfold downs
              rw [show M.length - (c + 1) = 0 by omega]
              rfl
          have hRR : R = U ++ downs M J (j + 1) := by rw [hD, HU.out, HR.out, List.append_assoc]
          have hRl : R.length = U.length + (downs M J (j + 1)).length := by rw [hRR, List.length_append]
          go_ret
          unfold BetPost
          rw [HBT.out]
          refine ⟨ad6, cap6, by rw [hRl]; rfl, by rw [hRl, hRR]; exact hown6, ?_⟩
          exact (accC.out.trans (HB.out.1.mono hsc)).trans hb6
        · have hrne : r.toList.isEmpty = false := by
            rw [toList_data, HRd.out]
            simpa using realm_ne (HP.out.gb.take (j := j) (by omega))
          have hqr := eq_text r t
          by_cases hjc : j = c
          · have hrt : r.data.toList = t.data.toList := by
              rw [HRd.out, HT.out, show max c 1 = c by omega, HP.out.take (Nat.le_refl c), hjc, HP.out.kind (by omega)]
            rw [decide_eq_true hrt] at hqr
            have HJC := Lib.hid hjc
            clear hrt hjc
            go_wp2_with (at_builtin; refine wpList_append_texts _ rfl (.tmp 66) (.tmp 67) rfl w.heap.size ad1 U.length c1 U rfl (own_below hoL.out HB.out.1) ad2 (downs M J (j + 1)).length c2 (downs M J (j + 1)) rfl (At.owns HO.out) (by omega) (by omega) (Nat.le_trans hsc HB.out.2) ?_; intro ad6 cap6 w6 hown6 hb6)
            have hj' : j = c ∨ c = M.length := .inl HJC.out
            have hD : downs M J (j + 1) = downs M J (c + 1) := by
              rcases hj' with h | h
              · rw [h]
              · rw [show j + 1 = M.length by omega, downs_all]
                unfold downs
                rw [show M.length - (c + 1) = 0 by omega]
                rfl
            have hRR : R = U ++ downs M J (j + 1) := by rw [hD, HU.out, HR.out, List.append_assoc]
            have hRl : R.length = U.length + (downs M J (j + 1)).length := by rw [hRR, List.length_append]
            go_ret
            unfold BetPost
            rw [HBT.out]
            refine ⟨ad6, cap6, by rw [hRl]; rfl, by rw [hRl, hRR]; exact hown6, ?_⟩
            exact (accC.out.trans (HB.out.1.mono hsc)).trans hb6
          · have hrt : r.data.toList ≠ t.data.toList := by
              rw [HRd.out, HT.out]
              intro e
              have := HP.out.meet (by omega) (by omega) (by omega) (by omega) e.symm
              omega
            rw [decide_eq_false hrt] at hqr
            have sr : r.size < 90000 := anc_size HP.out.gb (by omega) (by omega) HRd.out HP.out.eb sb
            have hu := up_anc HP.out.gb (j := j) (by omega) (by omega)
            rw [← HRd.out] at hu
            obtain ⟨r', hr'⟩ : ∃ r' : ByteArray, (⟨(upOf r.data.toList).toArray⟩ : ByteArray) = r' := ⟨_, rfl⟩
            have hr'd : r'.data.toList = realmOf (M.take (j - 1)) J := by rw [← hr', ← hu]
            have HR' := Lib.hid hr'd
            have hdn := downs_next M J j hj1
            rw [← HRd.out] at hdn
            have HDN := Lib.hid hdn
            clear hrt hu hr'd hdn
            go_wp2_with (first
              | (at_builtin; refine wpList_append_texts _ rfl (.tmp 63) (.tmp 64) rfl wr.heap.size (some ⟨wr.heap.size, 0, none⟩) 1 1 [r.data.toList] rfl (wpList_lit_text (w := wr) r.data.toList) ad2 (downs M J (j + 1)).length c2 (downs M J (j + 1)) rfl (At.owns (HO.out.alloc _)) (by omega) (by omega) (by simp) ?_; intro ad6 cap6 w6 hown6 hb6)
              | (go_at_call 44; refine (refup_any _ r sr).mono ?_; rintro e w7 ⟨rfl, hb7⟩; rw [hr']))
            have hs6 : wr.heap.size ≤ w6.heap.size := Nat.le_trans (by simp) hb6.size
            have hown7 := Joins.ownsRow_le (own_below hown6 hb7) HB.out.2
            have hB7 : Below wc.heap.size wc w7 := (HB.out.1.trans (((Below.refl _ wr).alloc (Nat.le_refl _) _).mono HB.out.2)).trans ((hb6.mono HB.out.2).trans (hb7.mono (Nat.le_trans HB.out.2 hs6)))
            have hlen : (downs M J (j - 1 + 1)).length = 1 + (downs M J (j + 1)).length := by
              rw [show j - 1 + 1 = j by omega, HDN.out]
              simp; omega
            go_roundg (j - 1)
            case measure => omega
            case rel => exact ⟨j - 1, r', ad6, cap6, by omega, by omega, by omega, rfl, by rw [hlen], HR'.out, by rw [hlen, show j - 1 + 1 = j by omega, HDN.out]; exact hown7, hB7, hB7.size⟩

theorem refbet_any (w : World) (a b : ByteArray) (sa : a.size < 90000) (sb : b.size < 90000) :
    Calls Tryz.prog 28 #[.string a, .string b] w fun e w' => BetPost w w' a.data.toList b.data.toList e := by
  cases hx : isR a.data.toList
  · exact refbet_none w a b sa sb (.inl hx)
  · cases hy : isR b.data.toList
    · exact refbet_none w a b sa sb (.inr (.inl hy))
    · by_cases he : a.data.toList = b.data.toList
      · exact refbet_none w a b sa sb (.inr (.inr he))
      · exact refbet_some w a b sa sb _ _ _ _ _ (pair_of (isR_of hx) (isR_of hy)) he hx hy (betOf_eq (isR_of hx) (isR_of hy))
end Go.Proofs.YtcleonpckgfdhaaGreatDoor
