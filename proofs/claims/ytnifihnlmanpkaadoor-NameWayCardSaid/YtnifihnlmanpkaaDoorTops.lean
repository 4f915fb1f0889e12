/-
  NameTops: the walk of the law.
-/
import Derived.Test.YtnifihnlmanpkaaDoorRefUnder
import Derived.Test.YtnifihnlmanpkaaDoorApp2
set_option linter.unusedVariables false
set_option linter.unusedSimpArgs false
namespace Go.Proofs.YtnifihnlmanpkaaDoor
open Go Go.RowKit Go.Lib Go.Shelf

theorem chain_up {L : List Str} {K : Nat} (hL : L ≠ []) : realmOf L K :: ups L K 0 = (List.range L.length).map fun i => realmOf (L.take (L.length - i)) K := by
  have h1 : 1 ≤ L.length := List.length_pos_iff.2 hL
  obtain ⟨n, hn⟩ : ∃ n, L.length = n + 1 := ⟨L.length - 1, by omega⟩
  unfold ups
  rw [hn, List.range_succ_eq_map, List.map_cons, List.map_map]
  congr 1
  · rw [Nat.sub_zero, ← hn, List.take_length]
  · simp only [Nat.add_sub_cancel, Nat.sub_zero]
    apply List.map_congr_left
    intro i _
    simp only [Function.comp]
    congr 2
    omega
theorem chain_down {M : List Str} {J : Nat} (hM : M ≠ []) : downs M J 1 ++ [realmOf M J] = (List.range M.length).map fun i => realmOf (M.take (1 + i)) J := by
  have h1 : 1 ≤ M.length := List.length_pos_iff.2 hM
  obtain ⟨n, hn⟩ : ∃ n, M.length = n + 1 := ⟨M.length - 1, by omega⟩
  unfold downs
  rw [hn, List.range_succ, List.map_append]
  simp only [Nat.add_sub_cancel, List.map_cons, List.map_nil]
  congr 2
  rw [show 1 + n = M.length by omega, List.take_length]

theorem tops_path {a b : Str} (ha : kindOf a ≠ 0) (hb : kindOf b ≠ 0) (hne : realmOf ((labelsOf a).1.take 1) (kindOf a) ≠ realmOf ((labelsOf b).1.take 1) (kindOf b)) :
    (labelsOf a).1.length < ([a] ++ betOf a b ++ [b]).length ∧ ([a] ++ betOf a b ++ [b])[(labelsOf a).1.length - 1]! = realmOf ((labelsOf a).1.take 1) (kindOf a) ∧ ([a] ++ betOf a b ++ [b])[(labelsOf a).1.length]! = realmOf ((labelsOf b).1.take 1) (kindOf b) := by
  have hP := pair_of ha hb
  have hc : sameLen a b = 0 := by
    rcases Nat.eq_zero_or_pos (sameLen a b) with h | h
    · exact h
    · exact absurd (by rw [hP.take (j := 1) h, hP.kind h]) hne
  have hB := betOf_eq ha hb
  rw [hc] at hB
  have hm : mid (labelsOf a).1 (labelsOf b).1 (kindOf a) 0 = [] := by unfold mid; rw [if_neg (by omega)]
  rw [hm, List.nil_append] at hB
  have e : [a] ++ betOf a b ++ [b] = ((List.range (labelsOf a).1.length).map fun i => realmOf ((labelsOf a).1.take ((labelsOf a).1.length - i)) (kindOf a)) ++ ((List.range (labelsOf b).1.length).map fun i => realmOf ((labelsOf b).1.take (1 + i)) (kindOf b)) := by
    rw [← chain_up hP.ga.ne, ← chain_down hP.gb.ne, hP.ea, hP.eb, hB]
    simp
  have h1 : 1 ≤ (labelsOf a).1.length := List.length_pos_iff.2 hP.ga.ne
  have h2 : 1 ≤ (labelsOf b).1.length := List.length_pos_iff.2 hP.gb.ne
  rw [e]
  have hl : (((List.range (labelsOf a).1.length).map fun i => realmOf ((labelsOf a).1.take ((labelsOf a).1.length - i)) (kindOf a)) ++ ((List.range (labelsOf b).1.length).map fun i => realmOf ((labelsOf b).1.take (1 + i)) (kindOf b))).length = (labelsOf a).1.length + (labelsOf b).1.length := by simp
  refine ⟨by omega, ?_, ?_⟩
  · rw [getElem!_pos _ _ (by omega), List.getElem_append_left (by simp; omega), List.getElem_map, List.getElem_range]
    congr 2
    omega
  · rw [getElem!_pos _ _ (by omega), List.getElem_append_right (by simp), List.getElem_map, List.getElem_range]
    congr 2
    simp

theorem nameTops_not (w : World) (a b : ByteArray) (ha : a.size ≤ 140737488351232) (hb : b.size ≤ 140737488351232) (hl : 200 < a.size + b.size ∨ isR a.data.toList = false ∨ isR b.data.toList = false) :
    Calls Tryd.prog 4 #[.string a, .string b] w fun e w' => e = .returned (.bool true) ∧ Below w.heap.size w w' := by
  have acc : Below w.heap.size w w := Below.refl _ _
  by_cases h : 200 < a.size + b.size
  · have h1 : (200 : Int) < (a.size : Int) + (b.size : Int) := by omega
    clear hl h
    go_enter Tryd.func4, Tryd.ntmps4
    go_wp2
    go_ret
    exact ⟨rfl, acc⟩
  · have h1 : ¬ (200 : Int) < (a.size : Int) + (b.size : Int) := by omega
    have sa : a.size < 90000 := by omega
    have sb : b.size < 90000 := by omega
    cases hx : isR a.data.toList with
    | false =>
      clear hl h
      go_enter Tryd.func4, Tryd.ntmps4
      go_wp2_with (go_at_call 12; refine (refis_any _ _ (by assumption)).mono ?_; rintro e w2 ⟨rfl, hb⟩; replace acc := acc.trans (hb.mono acc.size); clear hb)
      go_ret
      exact ⟨rfl, acc⟩
    | true =>
      have hy : isR b.data.toList = false := by
        rcases hl with hl | hl | hl
        · exact absurd hl h
        · rw [hl] at hx; cases hx
        · exact hl
      clear hl h
      go_enter Tryd.func4, Tryd.ntmps4
      go_wp2_with (go_at_call 12; refine (refis_any _ _ (by assumption)).mono ?_; rintro e w2 ⟨rfl, hb⟩; replace acc := acc.trans (hb.mono acc.size); clear hb)
      go_ret
      exact ⟨rfl, acc⟩

/-- One step up from a text that reads as the realm of L's first j labels. -/
theorem up_step {L : List Str} {K : Nat} (hG : Good L K) {j : Nat} (h1 : 1 ≤ j) (h2 : j ≤ L.length) {r : ByteArray} (hr : r.data.toList = realmOf (L.take j) K) :
    (1 < j → ∃ r' : ByteArray, (⟨(upOf r.data.toList).toArray⟩ : ByteArray) = r' ∧ r'.data.toList = realmOf (L.take (j - 1)) K ∧ r'.toList.isEmpty = false) ∧ (j = 1 → (⟨(upOf r.data.toList).toArray⟩ : ByteArray) = ⟨#[]⟩) := by
  have hu := up_anc hG h1 h2
  rw [hr, hu]
  refine ⟨fun hj => ⟨_, rfl, rfl, ?_⟩, fun hj => ?_⟩
  · rw [toList_data]
    simpa using realm_ne (hG.take (j := j - 1) (by omega))
  · subst hj
    rfl

theorem anc_size {L : List Str} {K : Nat} (hG : Good L K) {j : Nat} (h1 : 1 ≤ j) (h2 : j ≤ L.length) {r a : ByteArray} (hr : r.data.toList = realmOf (L.take j) K) (ha : realmOf L K = a.data.toList) (sa : a.size < 90000) : r.size < 90000 := by
  have e1 : r.data.toList.length = r.size := rfl
  have e2 : a.data.toList.length = a.size := rfl
  rcases Nat.lt_or_ge j L.length with h | h
  · have := len_anc hG h1 h
    rw [ha] at this
    rw [hr] at e1
    omega
  · have : j = L.length := by omega
    subst this
    rw [hr, List.take_length, ha] at e1
    omega

set_option maxHeartbeats 8000000 in
theorem nameTops_is (w : World) (hg : Glob w) (a b : ByteArray) (hl : ¬ 200 < a.size + b.size) (hx : isR a.data.toList = true) (hy : isR b.data.toList = true) :
    Calls Tryd.prog 4 #[.string a, .string b] w fun e w' => e = .returned (.bool true) ∧ Below w.heap.size w w' := by
  have h1 : ¬ (200 : Int) < (a.size : Int) + (b.size : Int) := by omega
  have sa : a.size < 90000 := by omega
  have sb : b.size < 90000 := by omega
  obtain ⟨hG, he, _⟩ := good_of_kind (isR_of hx)
  obtain ⟨hGb, heb, _⟩ := good_of_kind (isR_of hy)
  have hpath := tops_path (isR_of hx) (isR_of hy)
  have hR6 := betOf_six a.data.toList b.data.toList
  generalize hRR : betOf a.data.toList b.data.toList = R at *
  have HRR := Lib.hid hRR
  clear hRR
  generalize (labelsOf a.data.toList).1 = L at *
  generalize kindOf a.data.toList = K at *
  generalize (labelsOf b.data.toList).1 = M at *
  generalize kindOf b.data.toList = J at *
  have hL1 : 1 ≤ L.length := List.length_pos_iff.2 hG.ne
  have hM1 : 1 ≤ M.length := List.length_pos_iff.2 hGb.ne
  have hsa := fun (j : Nat) (h1 : 1 ≤ j) (h2 : j ≤ L.length) (r : ByteArray) hr => anc_size hG h1 h2 (r := r) hr he sa
  have hsb := fun (j : Nat) (h1 : 1 ≤ j) (h2 : j ≤ M.length) (r : ByteArray) hr => anc_size hGb h1 h2 (r := r) hr heb sb
  have HSA := Lib.hid hsa
  have HSB := Lib.hid hsb
  have HGA := Lib.hid hG
  have HGB := Lib.hid hGb
  have HPT := Lib.hid hpath
  have HG := Lib.hid hg
  have hda : a.data.toList = realmOf (L.take L.length) K := by rw [List.take_length]; exact he.symm
  have hdb : b.data.toList = realmOf (M.take M.length) J := by rw [List.take_length]; exact heb.symm
  have HDA := Lib.hid hda
  have HDB := Lib.hid hdb
  clear hg hl hG hGb he heb hpath hsa hsb hda hdb
  have acc : Below w.heap.size w w := Below.refl _ _
  go_enter Tryd.func4, Tryd.ntmps4
  go_wp2_with (go_at_call 12; refine (refis_any _ _ (by assumption)).mono ?_; rintro e w2 ⟨rfl, hb⟩; replace acc := acc.trans (hb.mono acc.size); clear hb)
  go_loopg [5] L.length (fun gg s5 wr => ∃ (j : Nat) (r : ByteArray), 1 ≤ j ∧ j ≤ L.length ∧ j ≤ gg ∧ s5 = .string r ∧ Aside (r.data.toList = realmOf (L.take j) K) ∧ Aside (Below w.heap.size w wr))
  case atStart => exact ⟨L.length, a, hL1, Nat.le_refl _, Nat.le_refl _, rfl, HDA.out, acc⟩
  case round =>
    obtain ⟨j, r, hj1, hj2, hgg, rfl, HR, HB⟩ := hrel
    replace acc := HB.out
    have sr : r.size < 90000 := HSA.out j hj1 hj2 r HR.out
    obtain ⟨hmore, hlast⟩ := up_step HGA.out hj1 hj2 HR.out
    by_cases hj : 1 < j
    · obtain ⟨r', hu, hr', hr'e⟩ := hmore hj
      have HR' := Lib.hid hr'
      clear hmore hlast hr'
      go_wp2_with (go_at_call 15; refine (refup_any _ r sr).mono ?_; rintro e w2 ⟨rfl, hb⟩; replace acc := acc.trans (hb.mono acc.size); clear hb; rw [hu])
      go_roundg (j - 1)
      case measure => omega
      case rel => exact ⟨j - 1, r', by omega, by omega, by omega, rfl, HR'.out, acc⟩
    · have hj' : j = 1 := by omega
      have hu := hlast hj'
      subst hj'
      clear hmore hlast
      go_wp2_with (go_at_call 15; refine (refup_any _ r sr).mono ?_; rintro e w3 ⟨rfl, hb⟩; replace acc := acc.trans (hb.mono acc.size); clear hb; rw [hu])
      go_loopg [6] M.length (fun gg s6 wr => ∃ (j : Nat) (r : ByteArray), 1 ≤ j ∧ j ≤ M.length ∧ j ≤ gg ∧ s6 = .string r ∧ Aside (r.data.toList = realmOf (M.take j) J) ∧ Aside (Below w.heap.size w wr))
      case atStart => exact ⟨M.length, b, hM1, Nat.le_refl _, Nat.le_refl _, rfl, HDB.out, acc⟩
      case round =>
        obtain ⟨j, t, hj1, hj2, hgg, rfl, HT, HB⟩ := hrel
        replace acc := HB.out
        have st : t.size < 90000 := HSB.out j hj1 hj2 t HT.out
        obtain ⟨hmore, hlast⟩ := up_step HGB.out hj1 hj2 HT.out
        by_cases hj : 1 < j
        · obtain ⟨r', hu, hr', hr'e⟩ := hmore hj
          have HR' := Lib.hid hr'
          clear hmore hlast hr'
          go_wp2_with (go_at_call 15; refine (refup_any _ t st).mono ?_; rintro e w2 ⟨rfl, hb⟩; replace acc := acc.trans (hb.mono acc.size); clear hb; rw [hu])
          go_roundg (j - 1)
          case measure => omega
          case rel => exact ⟨j - 1, r', by omega, by omega, by omega, rfl, HR'.out, acc⟩
        · have hj' : j = 1 := by omega
          have hu2 := hlast hj'
          subst hj'
          clear hmore hlast
          have hq := eq_text r t
          by_cases hrt : r.data.toList = t.data.toList
          · rw [decide_eq_true hrt] at hq
            clear hrt
            go_wp2_with (go_at_call 15; refine (refup_any _ t st).mono ?_; rintro e w2 ⟨rfl, hb⟩; replace acc := acc.trans (hb.mono acc.size); clear hb; rw [hu2])
            go_ret
            exact ⟨rfl, acc⟩
          · rw [decide_eq_false hrt] at hq
            have hp := HPT.out (by rw [← HR.out, ← HT.out]; exact hrt)
            rw [← HR.out, ← HT.out] at hp
            have HP := Lib.hid hp
            clear hrt hp
            have tok : True := trivial
            go_wp2_with (first
              | (go_at_call 15; refine (refup_any _ t st).mono ?_; rintro e w4 ⟨rfl, hb⟩; replace acc := acc.trans (hb.mono acc.size); clear hb; rw [hu2])
              | (go_at_call 13; refine (between_any _ a b (HG.out.below (acc.alloc acc.size _)) sa sb).mono ?_; rintro e w5 ⟨ad1, c1, rfl, ho1, hb5⟩; rw [HRR.out] at ho1 ⊢; have hlit := own_below (wpList_lit_text (w := w4) a.data.toList) hb5; have hs5 : w4.heap.size ≤ w5.heap.size := Nat.le_trans (by simp) hb5.size)
              | (at_builtin; have _t := tok; refine wpList_append_texts _ rfl (.tmp 41) (.tmp 44) rfl w4.heap.size (some ⟨w4.heap.size, 0, none⟩) 1 1 [a.data.toList] rfl hlit ad1 R.length c1 R rfl (At.owns ho1) (by omega) (by omega) hs5 ?_; intro ad6 cap6 w6 hown6 hb6; have hs6 : w4.heap.size ≤ w6.heap.size := Nat.le_trans hs5 hb6.size; clear tok)
              | (at_builtin; refine wpList_append_text _ rfl (.tmp 45) (.tmp 47) rfl w4.heap.size ad6 (1 + R.length) cap6 ([a.data.toList] ++ R) rfl (hown6.alloc _) w6.heap.size b.data.toList rfl (heap_alloc_new _ _) (by omega) (Nat.le_trans hs6 (by simp)) ?_; intro g7 cap7 w7 hown7 hb7))
            have hall : Below w.heap.size w w7 := by
              have e1 : Below w4.heap.size w4 w5 := ((Below.refl _ w4).alloc (Nat.le_refl _) _).trans (hb5.mono (by simp))
              have e2 := e1.trans hb6
              have e3 := (e2.alloc hs6 _).trans hb7
              exact acc.trans (e3.mono acc.size)
            have hA := At.owns hown7
            have hAl := hA.len
            have HA := Lib.hid hA
            have HALL := Lib.hid hall
            obtain ⟨P, hPP⟩ : ∃ P, P = [a.data.toList] ++ R ++ [b.data.toList] := ⟨_, rfl⟩
            rw [← hPP] at HA HP hAl
            have hPl : P.length = 1 + R.length + 1 := hAl
            have HPS := HP.out.1
            clear hown7 hb7 hown6 hb6 hlit ho1 hb5 hs5 hs6 hA hAl hPP hall acc
            go_loopg [8] (L.length + 1) (fun gg s8 wr => ∃ i : Nat, 1 ≤ i ∧ i ≤ L.length ∧ L.length + 1 - i ≤ gg ∧ s8 = .int .i64 i ∧ Aside (wr = w7))
            case atStart => exact ⟨1, by omega, by omega, by omega, rfl, rfl⟩
            case round =>
              obtain ⟨i, hi1, hi2, hgg2, rfl, HQ⟩ := hrel
              have hq := HQ.out
              subst hq
              clear HQ
              have hiz : (i : Int) < ((1 + R.length + 1 : Nat) : Int) := by omega
              have hiz2 : (i : Int) < 1 + (R.length : Int) + 1 := by omega
              have hsub : (i : Int) - 1 = ((i - 1 : Nat) : Int) := by omega
              have hiz3 : ((i - 1 : Nat) : Int) < 1 + (R.length : Int) + 1 := by omega
              have hiz4 : ((i - 1 : Nat) : Int) < ((1 + R.length + 1 : Nat) : Int) := by omega
              obtain ⟨bk, off, hbk, hbl, hc⟩ := HA.out.cell (by omega)
              obtain ⟨x, hxx⟩ : ∃ x : ByteArray, x = ⟨P[i - 1]!.toArray⟩ := ⟨_, rfl⟩
              obtain ⟨y, hyy⟩ : ∃ y : ByteArray, y = ⟨P[i]!.toArray⟩ := ⟨_, rfl⟩
              have k1 := hc (i - 1) (by omega)
              have k2 := hc i (by omega)
              rw [← hxx] at k1
              rw [← hyy] at k2
              have q1 := eq_text x r
              have q2 := eq_text y t
              have hboth : i = L.length → x.data.toList = r.data.toList ∧ y.data.toList = t.data.toList := fun e => by
                rw [hxx, hyy, e]
                exact ⟨HP.out.2.1, HP.out.2.2⟩
              have HBO := Lib.hid hboth
              simp only [Option.some.injEq, Addr.mk.injEq, and_true] at hbk
              obtain ⟨rfl, rfl⟩ := hbk
              rw [Nat.zero_add] at k1 k2
              clear hc hboth hxx hyy
              by_cases e1 : x.data.toList = r.data.toList
              · rw [decide_eq_true e1] at q1
                by_cases e2 : y.data.toList = t.data.toList
                · rw [decide_eq_true e2] at q2
                  clear e1 e2
                  go_wp2_with (go_at_call 14; refine (known_any _ (HG.out.below HALL.out)).mono ?_; rintro e w8 ⟨rfl, hb8⟩)
                  go_ret
                  exact ⟨rfl, HALL.out.trans (hb8.mono HALL.out.size)⟩
                · rw [decide_eq_false e2] at q2
                  have hne : i ≠ L.length := fun e => e2 (HBO.out e).2
                  clear e1 e2
                  go_wp2
                  go_roundg (L.length + 1 - (i + 1))
                  case measure => omega
                  case rel => exact ⟨i + 1, by omega, by omega, by omega, by go_num, rfl⟩
              · rw [decide_eq_false e1] at q1
                have hne : i ≠ L.length := fun e => e1 (HBO.out e).1
                clear e1
                go_wp2
                go_roundg (L.length + 1 - (i + 1))
                case measure => omega
                case rel => exact ⟨i + 1, by omega, by omega, by omega, by go_num, rfl⟩

theorem nameTops_walk (a b : ByteArray) (ha : a.size ≤ 140737488351232) (hb : b.size ≤ 140737488351232) (w : World) (hg : Glob w) :
    Calls Tryd.prog 4 #[.string a, .string b] w fun e w' => e = .returned (.bool true) ∧ Below w.heap.size w w' := by
  by_cases hl : 200 < a.size + b.size
  · exact nameTops_not w a b ha hb (.inl hl)
  · cases hx : isR a.data.toList
    · exact nameTops_not w a b ha hb (.inr (.inl hx))
    · cases hy : isR b.data.toList
      · exact nameTops_not w a b ha hb (.inr (.inr hy))
      · exact nameTops_is w hg a b hl hx hy
end Go.Proofs.YtnifihnlmanpkaaDoor
