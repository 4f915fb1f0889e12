/-
  TransitInserts: the walk of the law, where something is inserted.
-/
import Derived.Test.YtjbdegcmolimoaaDoorTrIns2
import Derived.Test.YtjbdegcmolimoaaDoorAppW
set_option linter.unusedVariables false
set_option linter.unusedSimpArgs false
namespace Go.Proofs.YtjbdegcmolimoaaDoor
open Go Go.RowKit Go.Lib Go.Shelf

set_option maxHeartbeats 4000000 in
set_option maxRecDepth 100000 in
theorem transitInserts_new (w : World) (hg : Glob w) (ad : Option Addr) (n c : Nat) (l : List Str) (a b r : ByteArray) (hA : At w ad n l) (hk : bulk l ≤ 1048576)
    (ho : (onceOf l).2 = true) (h6 : ¬ 600 < bulk l) (h7 : ¬ 600 < bulk [a.data.toList, b.data.toList, r.data.toList]) (hx : isR a.data.toList = true) (hy : isR b.data.toList = true) (hz : isR r.data.toList = true)
    (hcase : ¬ (r.data.toList = a.data.toList ∨ r.data.toList = b.data.toList ∨ r.data.toList ∈ (onceOf l).1)) (hfull : (onceOf l).1.length ≠ 8) :
    Calls Tryd.prog 11 #[.slice ad n c, .string a, .string b, .string r] w fun e w' => e = .returned (.bool true) ∧ Below w.heap.size w w' := by
  have acc : Below w.heap.size w w := Below.refl _ _
  have HA := Lib.hid hA
  have HG := Lib.hid hg
  have hn : n ≤ 1048576 := by have := bulk_len l; have := hA.len; omega
  have HSZ := Lib.hid (show ∀ x ∈ l, x.length < 1100000 from fun x hx => by have := bulk_mem hx; omega)
  have hbk := bulk3 a b r
  have hle : bulk [a.data.toList, b.data.toList, r.data.toList] ≤ 4000000000000000000 := by omega
  have sa : a.size < 1100000 := by omega
  have sb : b.size < 1100000 := by omega
  have sr : r.size < 1100000 := by omega
  have sa2 : a.size < 90000 := by omega
  have sb2 : b.size < 90000 := by omega
  have sr2 : r.size < 90000 := by omega
  have hd := Lib.hid (decide_eq_false h6)
  have hd2 := Lib.hid (decide_eq_false h7)
  have tok : True := trivial
  have tok2 : True := trivial
  have tok3 : True := trivial
  have tok4 : True := trivial
  have tok5 : True := trivial
  have tok6 : True := trivial
  obtain ⟨_, _, hmR, hmN, hm8⟩ := once_ok ho
  obtain ⟨m, ok, hon⟩ : ∃ m ok, onceOf l = (m, ok) := ⟨_, _, rfl⟩
  rw [hon] at ho hmR hmN hm8 hcase hfull
  simp only at ho hmR hmN hm8 hcase hfull
  subst ho
  have HON := Lib.hid hon
  have hC := compress_ok hmR hm8
  have hI := insert_in hmR hmN hm8 hx hy hz
  have hcl := compress_len (l := m)
  rw [hC] at hcl
  simp only at hcl
  obtain ⟨t, ht⟩ : ∃ t : ByteArray, t = ⟨(joinOn 44 (shorts m)).toArray⟩ := ⟨_, rfl⟩
  have htd : t.data.toList = joinOn 44 (shorts m) := by rw [ht]
  have st : t.size < 70000 := by have e : t.data.toList.length = t.size := rfl; rw [htd] at e; omega
  rw [← htd] at hI hC
  have E2 := Lib.hid hC
  have HMS := Lib.hid (show ∀ x ∈ m, x.length < 90000 from fun x hx => by have := isR_short' (hmR x hx); omega)
  have HSZ2 := Lib.hid (show ∀ x ∈ m ++ [r.data.toList], x.length < 1100000 from fun x hx' => by
    rw [List.mem_append, List.mem_singleton] at hx'
    rcases hx' with h | rfl
    · have := isR_short' (hmR x h); omega
    · have := isR_short' hz; omega)
  have hall : ∀ x ∈ m ++ [r.data.toList], isR x = true := by
    intro x hx'
    rw [List.mem_append, List.mem_singleton] at hx'
    rcases hx' with h | rfl
    · exact hmR x h
    · exact hz
  have hadd : addsOf [] (m ++ [r.data.toList]) = addOf m r.data.toList := by
    rw [addsOf_append, show addsOf [] m = m from by rw [addsOf_new (by simpa using hmN), List.nil_append]]
    rfl
  have hon2 : onceOf (m ++ [r.data.toList]) = (addOf m r.data.toList, decide ((addOf m r.data.toList).length ≤ 8)) := by
    unfold onceOf
    rw [if_neg (any_notR hall), hadd]
  rw [if_neg hcase] at hI
  have hnin : ¬ r.data.toList ∈ m := fun h => hcase (.inr (.inr h))
  have hq1 := eq_text r a
  have hq2 := eq_text r b
  rw [decide_eq_false (fun h => hcase (.inl h))] at hq1
  rw [decide_eq_false (fun h => hcase (.inr (.inl h)))] at hq2
  obtain ⟨V, ok2, hV⟩ : ∃ V ok2, onceOf (m ++ [r.data.toList]) = (V, ok2) := ⟨_, _, rfl⟩
  have HON2 := Lib.hid hV
  rw [hon2] at hV
  simp only [Prod.mk.injEq] at hV
  have hVm : V.length = m.length + 1 := by rw [← hV.1, addOf_new hnin]; simp
  have hVz : ((V.length : Int) == (m.length : Int)) = false := by simp; omega
  have hVz2 : (V.length : Int) ≠ (m.length : Int) := by omega
  have h8n : (m ++ [r.data.toList]).length ≤ 8 := by simp; omega
  have hcomp := compress_ok hall h8n
  have hnd : (m ++ [r.data.toList]).Nodup := by
    have := addOf_nodup (r := r.data.toList) hmN
    rwa [addOf_new hnin] at this
  have hE := expand_compress hall hnd h8n hx hy
  have hcl2 := compress_len (l := m ++ [r.data.toList])
  rw [hcomp] at hcl2 hI
  simp only at hcl2
  obtain ⟨u, hu⟩ : ∃ u : ByteArray, u = ⟨(joinOn 44 (shorts (m ++ [r.data.toList]))).toArray⟩ := ⟨_, rfl⟩
  have hud : u.data.toList = joinOn 44 (shorts (m ++ [r.data.toList])) := by rw [hu]
  have su : u.size < 70000 := by have e : u.data.toList.length = u.size := rfl; rw [hud] at e; omega
  rw [← hud] at hI hE
  have E3 := Lib.hid hI
  have E1 := Lib.hid hE
  have HLN := Lib.hid (show (m ++ [r.data.toList]).length = m.length + 1 by simp)
  have hfz : ((m.length : Int) == 8) = false := by simp; omega
  have hfz2 : (m.length : Int) ≠ 8 := by omega
  clear hA hon hg h6 h7 hC hI hcl ht htd hmR hmN hon2 hall hadd hbk hV hcase hnin hcomp hVm hfull h8n hnd hE hcl2 hu hud
  go_enter Tryd.func11, Tryd.ntmps11
  go_wp2_with (first
    | (go_at_call 16; have _t := tok; clear tok; refine (once_any _ _ _ _ l HA.out (by omega) HSZ.out).mono ?_; rintro e w9 ⟨ado, co, rfl, ho, hb⟩; rw [HON.out] at ho ⊢; replace acc := acc.trans (hb.mono acc.size); clear hb)
    | (go_at_call 13; have _t := tok2; clear tok2; refine (large_any _ _ _ _ l (HA.out.below acc) (by omega)).mono ?_; rintro e w2 ⟨rfl, h2⟩; replace h2 := h2.symm; subst h2; rw [hd.out])
    | (go_at_call 13; refine (large_any _ _ _ _ [a.data.toList, b.data.toList, r.data.toList] (at_lit _ _ (by simp)) hle).mono ?_; rintro e w2 ⟨rfl, h2⟩; rw [hd2.out]; have hb : Below w9.heap.size w9 w2 := (by rw [h2]; exact (Below.refl _ _).alloc (Nat.le_refl _) _); replace ho := own_below ho hb; clear h2; replace acc := acc.trans (hb.mono acc.size); clear hb)
    | (go_at_call 14; refine (refis_big _ _ (by assumption)).mono ?_; rintro e w3 ⟨rfl, hb⟩; (first | rw [hx] | rw [hy] | rw [hz] ); replace ho := own_below ho hb; replace acc := acc.trans (hb.mono acc.size); clear hb)
    | (go_at_call 22; refine (refcompress_any _ _ _ _ m (At.owns ho) (by omega) HMS.out).mono ?_; rintro e w5 ⟨rfl, hb⟩; rw [E2.out]; replace ho := own_below ho hb; replace acc := acc.trans (hb.mono acc.size); clear hb)
    | (go_at_call 24; refine (insert_any _ _ _ _ _ (HG.out.below acc) (by assumption) (by assumption) (by assumption) (by assumption)).mono ?_; rintro e w6 ⟨rfl, hb⟩; rw [E3.out]; replace ho := own_below ho hb; replace acc := acc.trans (hb.mono acc.size); clear hb)
    | (at_builtin; have _t := tok3; clear tok3; refine wpList_append_texts _ rfl (.tmp 66) (.tmp 67) rfl w6.heap.size _ 0 0 [] rfl (own_empty w6) ado m.length co m rfl ((At.owns ho).below ((Below.refl _ _).alloc (Nat.le_refl _) _)) (by omega) (by omega) (by simp) ?_; intro ad7 cap7 w7 hown7 hb7; rw [List.nil_append] at hown7; simp only [Nat.zero_add] at hown7 ⊢; have hb67 : Below w6.heap.size w6 w7 := ((Below.refl _ w6).alloc (Nat.le_refl _) _).trans hb7)
    | (at_builtin; have _t := tok4; clear tok4; refine wpList_append_text _ rfl (.tmp 68) (.tmp 70) rfl w6.heap.size ad7 m.length cap7 m rfl (hown7.alloc _) w7.heap.size r.data.toList rfl (heap_alloc_new _ _) (by omega) (Nat.le_trans hb67.size (by simp)) ?_; intro g8 cap8 w8 hown8 hb8; have hb68 : Below w6.heap.size w6 w8 := (hb67.alloc hb67.size _).trans hb8; replace ho := own_below ho hb68; replace acc := acc.trans (hb68.mono acc.size); clear hb7 hb8 hb67 hown7)
    | (go_at_call 16; refine (once_any _ _ _ _ (m ++ [r.data.toList]) (At.owns hown8) (by omega) HSZ2.out).mono ?_; rintro e w6 ⟨adv, cv, rfl, hov, hb⟩; rw [HON2.out] at hov ⊢; replace ho := own_below ho hb; clear hov hown8 hb68; replace acc := acc.trans (hb.mono acc.size); clear hb)
    | (go_at_call 17; refine (expand_any _ _ _ _ (HG.out.below acc) (by assumption) (by assumption) (by assumption)).mono ?_; rintro e w6 ⟨ade, ce, rfl, hox, hb⟩; rw [E1.out] at hox ⊢; simp only [HLN.out] at hox ⊢; replace ho := own_below ho hb; replace acc := acc.trans (hb.mono acc.size); clear hb)
    | (at_builtin; have _t := tok5; clear tok5; refine wpList_append_textsW _ (by simp [Region.wanted, yielded]) (.tmp 127) (.tmp 128) rfl w6.heap.size _ 0 0 [] rfl (own_empty w6) ado m.length co m rfl ((At.owns ho).below ((Below.refl _ _).alloc (Nat.le_refl _) _)) (by omega) (by omega) (by simp) ?_; intro ad7 cap7 w7 hown7 hb7; rw [List.nil_append] at hown7; simp only [Nat.zero_add] at hown7 ⊢; have hb67 : Below w6.heap.size w6 w7 := ((Below.refl _ w6).alloc (Nat.le_refl _) _).trans hb7)
    | (at_builtin; have _t := tok6; clear tok6; refine wpList_append_textW _ (by simp [Region.wanted, yielded]) (.tmp 129) (.tmp 131) rfl w6.heap.size ad7 m.length cap7 m rfl (hown7.alloc _) w7.heap.size r.data.toList rfl (heap_alloc_new _ _) (by omega) (Nat.le_trans hb67.size (by simp)) ?_; intro g8 cap8 w8 hown8 hb8; have hb68 : Below w6.heap.size w6 w8 := (hb67.alloc hb67.size _).trans hb8; replace ho := own_below ho hb68; replace acc := acc.trans (hb68.mono acc.size); clear hb7 hb8 hb67 hown7)
    | (go_at_call 19; refine (texts_any _ _ _ _ _ _ _ (m ++ [r.data.toList]) (m ++ [r.data.toList]) (At.owns (own_below hox hb68)) (At.owns hown8) (by simp; omega) (by omega)).mono ?_; rintro e w12 ⟨rfl, hb⟩; rw [decide_eq_true rfl]; clear hown8 hox hb68; replace acc := acc.trans (hb.mono acc.size); clear hb)
    | (go_at_call 18; refine (known_any _ (HG.out.below acc)).mono ?_; rintro e w7 ⟨rfl, hb⟩; replace acc := acc.trans (hb.mono acc.size); clear hb))
  go_ret
  exact ⟨rfl, acc⟩

theorem transitInserts_walk (ad : Option Addr) (n c : Nat) (l : List Str) (a b r : ByteArray) (hk : bulk l ≤ 1048576) (ha : a.size < 1048576) (hb : b.size < 1048576) (hr : r.size < 1048576) (w : World) (hg : Glob w) (hA : At w ad n l) :
    Calls Tryd.prog 11 #[.slice ad n c, .string a, .string b, .string r] w fun e w' => e = .returned (.bool true) ∧ Below w.heap.size w w' := by
  cases ho : (onceOf l).2
  · exact transitInserts_not w ad n c l a b r hA hk ha hb hr (.inl ho)
  · by_cases h6 : 600 < bulk l
    · exact transitInserts_not w ad n c l a b r hA hk ha hb hr (.inr (.inl h6))
    · by_cases h7 : 600 < bulk [a.data.toList, b.data.toList, r.data.toList]
      · exact transitInserts_not w ad n c l a b r hA hk ha hb hr (.inr (.inr (.inl h7)))
      · cases hx : isR a.data.toList
        · exact transitInserts_not w ad n c l a b r hA hk ha hb hr (.inr (.inr (.inr (.inl hx))))
        · cases hy : isR b.data.toList
          · exact transitInserts_not w ad n c l a b r hA hk ha hb hr (.inr (.inr (.inr (.inr (.inl hy)))))
          · cases hz : isR r.data.toList
            · exact transitInserts_not w ad n c l a b r hA hk ha hb hr (.inr (.inr (.inr (.inr (.inr hz)))))
            · by_cases hcase : r.data.toList = a.data.toList ∨ r.data.toList = b.data.toList ∨ r.data.toList ∈ (onceOf l).1
              · exact transitInserts_same w hg ad n c l a b r hA hk ho h6 h7 hx hy hz hcase
              · by_cases hfull : (onceOf l).1.length = 8
                · exact transitInserts_full w hg ad n c l a b r hA hk ho h6 h7 hx hy hz hcase hfull
                · exact transitInserts_new w hg ad n c l a b r hA hk ho h6 h7 hx hy hz hcase hfull
end Go.Proofs.YtjbdegcmolimoaaDoor
