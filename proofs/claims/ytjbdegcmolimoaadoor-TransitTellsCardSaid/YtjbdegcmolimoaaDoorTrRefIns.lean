/-
  legateref6.Insert.
-/
import Derived.Test.YtjbdegcmolimoaaDoorTrRefExp
import Derived.Test.YtjbdegcmolimoaaDoorTrIns
set_option linter.unusedVariables false
set_option linter.unusedSimpArgs false
set_option maxRecDepth 100000
namespace Go.Proofs.YtjbdegcmolimoaaDoor
open Go Go.RowKit Go.Lib Go.Shelf

set_option maxHeartbeats 2000000 in
theorem refinsert_any (w : World) (s cl sv r : ByteArray) (ss : s.size < 70000) (sc : cl.size < 90000) (sn : sv.size < 90000) (sr : r.size < 90000) :
    Calls Tryd.prog 25 #[.string s, .string cl, .string sv, .string r] w fun e w' => e = .returned (.tuple #[.string ⟨(insertOf s.data.toList cl.data.toList sv.data.toList r.data.toList).1.toArray⟩, .int .i64 (insertOf s.data.toList cl.data.toList sv.data.toList r.data.toList).2]) ∧ Below w.heap.size w w' := by
  have hX := fun (e : Ending) w2 (h : ExpPost w w2 (expandOf s.data.toList cl.data.toList sv.data.toList) e) => h
  have hI : insertOf s.data.toList cl.data.toList sv.data.toList r.data.toList = if (expandOf s.data.toList cl.data.toList sv.data.toList).2 ≠ 0 then ([], (expandOf s.data.toList cl.data.toList sv.data.toList).2) else if isR r.data.toList = false then ([], 1) else if r.data.toList = cl.data.toList ∨ r.data.toList = sv.data.toList ∨ r.data.toList ∈ (expandOf s.data.toList cl.data.toList sv.data.toList).1 then (s.data.toList, 0) else compressOf ((expandOf s.data.toList cl.data.toList sv.data.toList).1 ++ [r.data.toList]) := rfl
  obtain ⟨hri, hl8⟩ := expand_isR s.data.toList cl.data.toList sv.data.toList
  have hE := refexpand_any w s cl sv ss sc sn
  obtain ⟨Y, hY⟩ : ∃ Y, Y = insertOf s.data.toList cl.data.toList sv.data.toList r.data.toList := ⟨_, rfl⟩
  rw [← hY] at hI ⊢
  unfold ExpPost at hE
  generalize (expandOf s.data.toList cl.data.toList sv.data.toList).1 = L at *
  generalize (expandOf s.data.toList cl.data.toList sv.data.toList).2 = E at *
  clear hX hY
  by_cases h1 : E = 0
  · rw [if_neg (by simpa using h1)] at hI
    subst h1
    cases hr : isR r.data.toList with
    | false =>
      rw [if_pos hr] at hI
      have HI := Lib.hid hI
      clear hI
      go_enter Tryd.func25, Tryd.ntmps25
      go_wp2_with (first
        | (go_at_call 23; refine hE.mono ?_; rintro e w2 ⟨ad, c, rfl, ho, hb⟩)
        | (go_at_call 14; refine (refis_any _ _ (by assumption)).mono ?_; rintro e w3 ⟨rfl, hb3⟩; rw [hr]))
      go_ret2
      exact ⟨by rw [HI.out]; rfl, hb.trans (hb3.mono hb.size)⟩
    | true =>
      rw [if_neg (by rw [hr]; simp)] at hI
      have hq1 := eq_text r cl
      have hq2 := eq_text r sv
      by_cases h2 : r.data.toList = cl.data.toList
      · rw [if_pos (.inl h2)] at hI
        rw [decide_eq_true h2] at hq1
        have HI := Lib.hid hI
        clear hI h2 hq2
        go_enter Tryd.func25, Tryd.ntmps25
        go_wp2_with (first
          | (go_at_call 23; refine hE.mono ?_; rintro e w2 ⟨ad, c, rfl, ho, hb⟩)
          | (go_at_call 14; refine (refis_any _ _ (by assumption)).mono ?_; rintro e w3 ⟨rfl, hb3⟩; rw [hr]))
        go_ret2
        exact ⟨by rw [HI.out]; rfl, hb.trans (hb3.mono hb.size)⟩
      · rw [decide_eq_false h2] at hq1
        by_cases h3 : r.data.toList = sv.data.toList
        · rw [if_pos (.inr (.inl h3))] at hI
          rw [decide_eq_true h3] at hq2
          have HI := Lib.hid hI
          clear hI h2 h3
          go_enter Tryd.func25, Tryd.ntmps25
          go_wp2_with (first
            | (go_at_call 23; refine hE.mono ?_; rintro e w2 ⟨ad, c, rfl, ho, hb⟩)
            | (go_at_call 14; refine (refis_any _ _ (by assumption)).mono ?_; rintro e w3 ⟨rfl, hb3⟩; rw [hr]))
          go_ret2
          exact ⟨by rw [HI.out]; rfl, hb.trans (hb3.mono hb.size)⟩
        · rw [decide_eq_false h3] at hq2
          by_cases h4 : r.data.toList ∈ L
          · rw [if_pos (.inr (.inr h4))] at hI
            have HAD := Lib.hid (addOf_old h4)
            have tok : True := trivial
            have HI := Lib.hid hI
            clear hI h2 h3 h4
            go_enter Tryd.func25, Tryd.ntmps25
            go_wp2_with (first
              | (go_at_call 23; refine hE.mono ?_; rintro e w2 ⟨ad, c, rfl, ho, hb⟩)
              | (go_at_call 14; refine (refis_any _ _ (by assumption)).mono ?_; rintro e w3 ⟨rfl, hb3⟩; rw [hr])
              | (go_at_call 40; have _t := tok; refine (refadd_any _ w.heap.size ad _ c L r (own_below ho hb3) (by omega) (Nat.le_trans hb.size hb3.size)).mono ?_; rintro e w4 ⟨ad4, c4, rfl, ho4, hk4, hb4, _, _⟩; rw [HAD.out] at ho4 ⊢; (try rw [hLL] at ho4 ⊢); clear tok))
            go_ret2
            exact ⟨by rw [HI.out]; rfl, (hb.trans (hb3.mono hb.size)).trans hb4⟩
          · rw [if_neg (by rintro (h | h | h); exact h2 h; exact h3 h; exact h4 h)] at hI
            have HAD := Lib.hid (addOf_new h4)
            have tok : True := trivial
            have hLL : (L ++ [r.data.toList]).length = L.length + 1 := by simp
            have hne : (((L.length + 1 : Nat) : Int) == (L.length : Int)) = false := by rw [beq_eq_false_iff_ne]; omega
            have hsz : ∀ x ∈ L ++ [r.data.toList], x.length < 90000 := by
              intro x hx
              rw [List.mem_append, List.mem_singleton] at hx
              rcases hx with hx | rfl
              · have := isR_short' (hri x hx); omega
              · exact sr
            have HI := Lib.hid hI
            have HSZ := Lib.hid hsz
            clear hI h2 h3 h4 hsz hri
            go_enter Tryd.func25, Tryd.ntmps25
            go_wp2_with (first
              | (go_at_call 23; refine hE.mono ?_; rintro e w2 ⟨ad, c, rfl, ho, hb⟩)
              | (go_at_call 14; refine (refis_any _ _ (by assumption)).mono ?_; rintro e w3 ⟨rfl, hb3⟩; rw [hr])
              | (go_at_call 40; have _t := tok; refine (refadd_any _ w.heap.size ad _ c L r (own_below ho hb3) (by omega) (Nat.le_trans hb.size hb3.size)).mono ?_; rintro e w4 ⟨ad4, c4, rfl, ho4, hk4, hb4, _, _⟩; rw [HAD.out] at ho4 ⊢; (try rw [hLL] at ho4 ⊢); clear tok)
              | (go_at_call 40; refine (refadd_any _ w.heap.size ad _ c L r hk4 (by omega) (Nat.le_trans (Nat.le_trans hb.size hb3.size) hb4.size)).mono ?_; rintro e w7 ⟨ad7, cap7, rfl, hown7, _, hb7, _, _⟩; rw [HAD.out, hLL] at hown7 ⊢; have acc7 := ((hb.trans (hb3.mono hb.size)).trans hb4).trans hb7)
              | (go_at_call 22; refine (refcompress_any _ _ _ _ (L ++ [r.data.toList]) (At.owns hown7) (by omega) HSZ.out).mono ?_; rintro e w8 ⟨rfl, hb8⟩; rw [← HI.out]))
            go_ret2
            exact ⟨rfl, acc7.trans (hb8.mono acc7.size)⟩
  · rw [if_pos (by simpa using h1)] at hI
    have HI := Lib.hid hI
    have hEz : (E : Int) ≠ 0 := by omega
    have hEb : ((E : Int) != 0) = true := by simpa using h1
    clear hI h1
    go_enter Tryd.func25, Tryd.ntmps25
    go_wp2_with (go_at_call 23; refine hE.mono ?_; rintro e w2 ⟨ad, c, rfl, ho, hb⟩)
    go_ret2
    exact ⟨by rw [HI.out]; rfl, hb⟩
end Go.Proofs.YtjbdegcmolimoaaDoor
