/-
  legateref6.Compress, add, sub.
-/
import Derived.Test.YtjbdegcmolimoaaDoorTrLib
set_option linter.unusedVariables false
set_option linter.unusedSimpArgs false
namespace Go.Proofs.YtjbdegcmolimoaaDoor
open Go Go.RowKit Go.Lib Go.Shelf

theorem shorts_join0 {l : List Str} (h : 0 < l.length) : joinOn 44 (shorts (l.take 1)) = l[0]! := by
  rw [shorts_one h]
  rfl
theorem shorts_join {l : List Str} {i : Nat} (h0 : 0 < i) (h : i < l.length) : joinOn 44 (shorts (l.take (i + 1))) = joinOn 44 (shorts (l.take i)) ++ 44 :: shortOf l[i]! l[i - 1]! := by
  rw [shorts_step h0 h, joinOn_snoc]
  intro e
  have := shorts_len (l.take i)
  rw [e, List.length_take] at this
  simp at this
  omega
theorem shorts_join_len {l : List Str} (hl : ∀ r ∈ l, isR r = true) (h8 : l.length ≤ 8) (i : Nat) : (joinOn 44 (shorts (l.take i))).length ≤ 312 := by
  have h1 := joinOn_len2 44 (shorts (l.take i)) 38 (shorts_long (fun r hr => isR_short' (hl r (List.mem_of_mem_take hr))))
  rw [shorts_len, List.length_take] at h1
  have : min i l.length ≤ 8 := by omega
  have := Nat.mul_le_mul_right 39 this
  omega

set_option maxHeartbeats 4000000 in
theorem refcompress_any (w : World) (ad : Option Addr) (n c : Nat) (l : List Str) (hA : At w ad n l) (hn : n ≤ 100000) (hsz : ∀ x ∈ l, x.length < 90000) :
    Calls Tryd.prog 22 #[.slice ad n c] w fun e w' => CompPost w w' l e := by
  have HA := Lib.hid hA
  have HL := Lib.hid hA.len
  have HSZ := Lib.hid hsz
  have HCE : Hid (∀ w' e, e = .returned (.tuple #[.string ⟨(compressOf l).1.toArray⟩, .int .i64 (compressOf l).2]) → Below w.heap.size w w' → CompPost w w' l e) := Lib.hid (fun w' e h1 h2 => ⟨h1, h2⟩)
  clear hA hsz
  go_enter Tryd.func22, Tryd.ntmps22
  go_wp2
  go_loopg [4] n (fun gg s4 wr => ∃ i : Nat, i ≤ n ∧ n - i ≤ gg ∧ s4 = .int .i64 i ∧ Aside (∀ j, j < i → isR l[j]! = true) ∧ Aside (Below w.heap.size w wr))
  case atStart => exact ⟨0, by omega, by omega, rfl, fun j hj => absurd hj (Nat.not_lt_zero _), Below.refl _ _⟩
  case round =>
    obtain ⟨i, hi, hgg, rfl, HR, HB⟩ := hrel
    have acc := HB.out
    by_cases hlt : i < n
    · have hltz : (i : Int) < (n : Int) := by omega
      obtain ⟨b, off, hbk, hbb, hc⟩ := HA.out.cell (by omega)
      obtain ⟨x, hxx⟩ : ∃ x : ByteArray, x = ⟨l[i]!.toArray⟩ := ⟨_, rfl⟩
      have hxd : x.data.toList = l[i]! := by rw [hxx]
      have kx := (acc.cell (p := ⟨b, off + i, none⟩) hbb).trans (hc i hlt)
      rw [← hxx] at kx
      have hmem : l[i]! ∈ l := by rw [getElem!_pos l i (by rw [HL.out]; omega)]; exact List.getElem_mem _
      have sx : x.size < 90000 := by have e : x.data.toList.length = x.size := rfl; have := HSZ.out _ hmem; rw [hxd] at e; omega
      have HX := Lib.hid hxd
      have HME := Lib.hid hmem
      subst hbk
      clear hc hxx hxd hmem
      cases hi : isR x.data.toList with
      | false =>
        have hr : compressOf l = ([], 1) := by
          unfold compressOf
          rw [if_pos]
          rw [List.any_eq_true]
          exact ⟨_, HME.out, by rw [← HX.out, hi]; rfl⟩
        have HRR := Lib.hid hr
        clear hr
        go_wp2_with (go_at_call 14; refine (refis_any _ _ (by assumption)).mono ?_; rintro e w3 ⟨rfl, hb⟩; rw [hi]; replace acc := acc.trans (hb.mono acc.size); clear hb)
        go_ret2
        exact HCE.out _ _ (by rw [HRR.out]; rfl) acc
      | true =>
        have HI := Lib.hid hi
        go_wp2_with (go_at_call 14; refine (refis_any _ _ (by assumption)).mono ?_; rintro e w3 ⟨rfl, hb⟩; rw [hi]; replace acc := acc.trans (hb.mono acc.size); clear hb)
        go_roundg (n - (i + 1))
        case measure => omega
        case rel =>
          refine ⟨i + 1, by omega, by omega, by go_num, fun j hj => ?_, acc⟩
          by_cases e : j = i
          · subst e; rw [← HX.out]; exact HI.out
          · exact HR.out j (by omega)
    · have hin : i = n := by omega
      subst hin
      have hall : ∀ r ∈ l, isR r = true := by
        intro r hr
        obtain ⟨j, hj, rfl⟩ := List.getElem_of_mem hr
        have := HR.out j (by rw [← HL.out]; exact hj)
        rwa [getElem!_pos l j hj] at this
      by_cases h8 : 8 < i
      · have h8z : (8 : Int) < (i : Int) := by omega
        have hr : compressOf l = ([], 13) := by
          unfold compressOf
          rw [if_neg (by simpa using hall), if_pos (by rw [HL.out]; exact h8)]
        have HRR := Lib.hid hr
        clear hr hall h8
        go_wp2
        go_ret2
        exact HCE.out _ _ (by rw [HRR.out]; rfl) acc
      · have h8z : ¬ (8 : Int) < (i : Int) := by omega
        have HRR := Lib.hid (compress_ok hall (by rw [HL.out]; omega))
        have HJL := Lib.hid (shorts_join_len hall (by rw [HL.out]; omega))
        have HALL := Lib.hid hall
        obtain ⟨n, hn'⟩ : ∃ n, n = i := ⟨_, rfl⟩
        rw [← hn'] at HL HA hn h8z h8 ⊢
        clear hall HR
        go_wp2
        go_loopg [5, 6] n (fun gg s5 s6 wr => ∃ (i : Nat) (t : ByteArray), i ≤ n ∧ n - i ≤ gg ∧ s6 = .int .i64 i ∧ s5 = .string t ∧ Aside (t.data.toList = joinOn 44 (shorts (l.take i))) ∧ Aside (Below w.heap.size w wr))
        case atStart => exact ⟨0, ⟨#[]⟩, by omega, by omega, rfl, rfl, rfl, acc⟩
        case round =>
          obtain ⟨i, t, hi, hgg, rfl, rfl, HT, HB⟩ := hrel
          have acc := HB.out
          have st : t.size ≤ 312 := by have e : t.data.toList.length = t.size := rfl; have := HJL.out i; rw [← HT.out] at this; omega
          by_cases hlt : i < n
          · have hltz : (i : Int) < (n : Int) := by omega
            obtain ⟨b, off, hbk, hbb, hc⟩ := HA.out.cell (by omega)
            obtain ⟨x, hxx⟩ : ∃ x : ByteArray, x = ⟨l[i]!.toArray⟩ := ⟨_, rfl⟩
            have hxd : x.data.toList = l[i]! := by rw [hxx]
            have kx := (acc.cell (p := ⟨b, off + i, none⟩) hbb).trans (hc i hlt)
            rw [← hxx] at kx
            have hmem : l[i]! ∈ l := by rw [getElem!_pos l i (by rw [HL.out]; omega)]; exact List.getElem_mem _
            have hxR : isR x.data.toList = true := by rw [hxd]; exact HALL.out _ hmem
            have hx37 := isR_short' hxR
            have sx : x.size < 90000 := by have e : x.data.toList.length = x.size := rfl; omega
            have HX := Lib.hid hxd
            have HC := Lib.hid hc
            subst hbk
            clear hc hxx hxd hmem
            by_cases h0 : i = 0
            · subst h0
              have kx : wr.cell? ⟨b, off, none⟩ = some (.string x) := kx
              obtain ⟨K, hK⟩ : ∃ K, kindOf x.data.toList = K := ⟨_, rfl⟩
              have hnx : ∀ y : ByteArray, y.data.toList = t.data.toList ++ x.data.toList → y.data.toList = joinOn 44 (shorts (l.take 1)) := fun y hy => by
                rw [hy, HT.out, shorts_join0 (by rw [HL.out]; omega), ← HX.out]
                rfl
              have HNX := Lib.hid hnx
              clear hnx hxR hx37
              go_wp2_with (go_at_call 20; refine (refkind_any _ _ (by assumption)).mono ?_; rintro e w4 ⟨rfl, hb⟩; rw [hK]; replace acc := acc.trans (hb.mono acc.size); clear hb)
              go_roundg (n - 1)
              case measure => omega
              case rel => exact ⟨1, _, by omega, by omega, by go_num, rfl, HNX.out _ (cat_data _ _), acc⟩
            · have hiz : (0 : Int) < (i : Int) := by omega
              have hsub : (i : Int) - 1 = ((i - 1 : Nat) : Int) := by omega
              have hiz2 : ((i - 1 : Nat) : Int) < (n : Int) := by omega
              obtain ⟨p, hpp⟩ : ∃ p : ByteArray, p = ⟨l[i - 1]!.toArray⟩ := ⟨_, rfl⟩
              have hpd : p.data.toList = l[i - 1]! := by rw [hpp]
              have kp0 := HC.out (i - 1) (by omega)
              rw [← hpp] at kp0
              have KPK := Lib.hid (fun (W : World) (hW : Below w.heap.size w W) => (hW.cell (p := ⟨b, off + (i - 1), none⟩) hbb).trans kp0)
              clear kp0
              have hmem : l[i - 1]! ∈ l := by rw [getElem!_pos l (i - 1) (by rw [HL.out]; omega)]; exact List.getElem_mem _
              have hpR : isR p.data.toList = true := by rw [hpd]; exact HALL.out _ hmem
              have sp : p.size < 90000 := by have e : p.data.toList.length = p.size := rfl; have := isR_short' hpR; omega
              have hnx : ∀ (y z : ByteArray), y.data.toList = shortOf x.data.toList p.data.toList → z = (t ++ (⟨#[44]⟩ : ByteArray)) ++ y → z.data.toList = joinOn 44 (shorts (l.take (i + 1))) := fun y z hy hz => by
                rw [hz, cat_data, cat_data, HT.out, shorts_join (by omega) (by rw [HL.out]; omega), ← HX.out, ← hpd, hy]
                simp
              have HNX := Lib.hid hnx
              clear hnx hpp hpd hmem hpR
              cases hu : underOf x.data.toList p.data.toList with
              | true =>
                by_cases hk : kindOf x.data.toList = 1
                · obtain ⟨q, _, e, es⟩ := short_under1 hu hk
                  have hle : p.size ≤ x.size := by have e1 : x.data.toList.length = x.size := rfl; have e2 : p.data.toList.length = p.size := rfl; rw [e] at e1; simp at e1; omega
                  have hlez : (p.size : Int) ≤ (x.size : Int) := by omega
                  have hsubz : (x.size : Int) - (p.size : Int) = ((x.size - p.size : Nat) : Int) := by omega
                  have hsub2 : ((x.size - p.size : Nat) : Int) ≤ (x.size : Int) := by omega
                  obtain ⟨y, hy⟩ : ∃ y : ByteArray, x.extract 0 (x.size - p.size) = y := ⟨_, rfl⟩
                  have hyd : y.data.toList = shortOf x.data.toList p.data.toList := by
                    rw [← hy, ext_eq]
                    unfold shortOf
                    rw [if_pos hu, if_pos hk]
                    rfl
                  have sy : y.size ≤ 40 := by have e1 : y.data.toList.length = y.size := rfl; have := short_len x.data.toList p.data.toList; rw [hyd] at e1; omega
                  have HYD := Lib.hid hyd
                  clear e es hyd hxR hx37
                  go_wp2_with (first
                    | (go_at_call 20; refine (refkind_any _ _ (by assumption)).mono ?_; rintro e w4 ⟨rfl, hb⟩; rw [hk]; replace acc := acc.trans (hb.mono acc.size); clear hb; have kp := KPK.out _ acc)
                    | (go_at_call 26; refine (refunder_any _ _ _ (by assumption) (by assumption)).mono ?_; rintro e w5 ⟨rfl, hb⟩; rw [hu]; replace acc := acc.trans (hb.mono acc.size); clear hb))
                  go_roundg (n - (i + 1))
                  case measure => omega
                  case rel => exact ⟨i + 1, _, by omega, by omega, by go_num, rfl, HNX.out _ _ HYD.out rfl, acc⟩
                · have hk2 : kindOf x.data.toList = 2 := by
                    rcases under_shape hu with ⟨h, _⟩ | ⟨h, _⟩
                    · exact absurd h hk
                    · exact h
                  obtain ⟨q, _, e, es⟩ := short_under2 hu hk2
                  have hle : p.size ≤ x.size := by have e1 : x.data.toList.length = x.size := rfl; have e2 : p.data.toList.length = p.size := rfl; rw [e] at e1; simp at e1; omega
                  have hlez : (p.size : Int) ≤ (x.size : Int) := by omega
                  obtain ⟨y, hy⟩ : ∃ y : ByteArray, x.extract p.size x.size = y := ⟨_, rfl⟩
                  have hyd : y.data.toList = shortOf x.data.toList p.data.toList := by
                    rw [← hy, Lib.extract_to_end]
                    unfold shortOf
                    rw [if_pos hu, if_neg hk]
                    rfl
                  have sy : y.size ≤ 40 := by have e1 : y.data.toList.length = y.size := rfl; have := short_len x.data.toList p.data.toList; rw [hyd] at e1; omega
                  have HYD := Lib.hid hyd
                  clear e es hyd hxR hx37 hk
                  go_wp2_with (first
                    | (go_at_call 20; refine (refkind_any _ _ (by assumption)).mono ?_; rintro e w4 ⟨rfl, hb⟩; rw [hk2]; replace acc := acc.trans (hb.mono acc.size); clear hb; have kp := KPK.out _ acc)
                    | (go_at_call 26; refine (refunder_any _ _ _ (by assumption) (by assumption)).mono ?_; rintro e w5 ⟨rfl, hb⟩; rw [hu]; replace acc := acc.trans (hb.mono acc.size); clear hb))
                  go_roundg (n - (i + 1))
                  case measure => omega
                  case rel => exact ⟨i + 1, _, by omega, by omega, by go_num, rfl, HNX.out _ _ HYD.out rfl, acc⟩
              | false =>
                rcases isR_cases hxR with hk | hk
                · have hyd : x.data.toList = shortOf x.data.toList p.data.toList := by
                    unfold shortOf
                    rw [if_neg (by rw [hu]; simp), if_neg (by omega)]
                  have HYD := Lib.hid hyd
                  have sx3 : x.size ≤ 40 := by have e1 : x.data.toList.length = x.size := rfl; omega
                  clear hyd hxR hx37
                  go_wp2_with (first
                    | (go_at_call 20; refine (refkind_any _ _ (by assumption)).mono ?_; rintro e w4 ⟨rfl, hb⟩; rw [hk]; replace acc := acc.trans (hb.mono acc.size); clear hb; have kp := KPK.out _ acc)
                    | (go_at_call 26; refine (refunder_any _ _ _ (by assumption) (by assumption)).mono ?_; rintro e w5 ⟨rfl, hb⟩; rw [hu]; replace acc := acc.trans (hb.mono acc.size); clear hb))
                  go_roundg (n - (i + 1))
                  case measure => omega
                  case rel => exact ⟨i + 1, _, by omega, by omega, by go_num, rfl, HNX.out _ _ HYD.out rfl, acc⟩
                · have hyd : ((⟨#[32]⟩ : ByteArray) ++ x).data.toList = shortOf x.data.toList p.data.toList := by
                    unfold shortOf
                    rw [if_neg (by rw [hu]; simp), if_pos hk, cat_data]
                    rfl
                  have HYD := Lib.hid hyd
                  have sx3 : x.size ≤ 40 := by have e1 : x.data.toList.length = x.size := rfl; omega
                  clear hyd hxR hx37
                  go_wp2_with (first
                    | (go_at_call 20; refine (refkind_any _ _ (by assumption)).mono ?_; rintro e w4 ⟨rfl, hb⟩; rw [hk]; replace acc := acc.trans (hb.mono acc.size); clear hb; have kp := KPK.out _ acc)
                    | (go_at_call 26; refine (refunder_any _ _ _ (by assumption) (by assumption)).mono ?_; rintro e w5 ⟨rfl, hb⟩; rw [hu]; replace acc := acc.trans (hb.mono acc.size); clear hb))
                  go_roundg (n - (i + 1))
                  case measure => omega
                  case rel => exact ⟨i + 1, _, by omega, by omega, by go_num, rfl, HNX.out _ _ HYD.out rfl, acc⟩
          · have hin : i = n := by omega
            subst hin
            have htake : l.take i = l := by rw [← HL.out, List.take_length]
            have ht := HT.out
            rw [htake] at ht
            have HTT := Lib.hid ht
            clear ht htake
            go_wp2
            go_ret2
            exact HCE.out _ _ (by rw [HRR.out, ← HTT.out]; rfl) acc
end Go.Proofs.YtjbdegcmolimoaaDoor
