/-
  transit.Insert; legatelaw6.known, texts.
-/
import Derived.Test.YtjbdegcmolimoaaDoorTrExp
import Derived.Test.YtjbdegcmolimoaaDoorRefUnder
set_option linter.unusedVariables false
set_option linter.unusedSimpArgs false
namespace Go.Proofs.YtjbdegcmolimoaaDoor
open Go Go.RowKit Go.Lib Go.Shelf

theorem fill_isR {c nx p : Str} {l : List Str} {nl : Bool} (hl : ∀ x ∈ l, isR x = true) : ∀ x ∈ fillOf c nx l p nl, isR x = true := by
  intro x hx
  unfold fillOf at hx
  split at hx
  · rw [addsOf_mem] at hx
    rcases hx with hx | hx
    · exact hl x hx
    · exact bet_isR x hx
  · exact hl x hx
theorem exGo_isR (c v : Str) : ∀ (fs l : List Str) (p : Str) (nl : Bool), (∀ x ∈ l, isR x = true) → (∀ x ∈ (exGo c v fs l p nl).1, isR x = true) ∧ (exGo c v fs l p nl).1.length ≤ 8
  | [], l, p, nl, hl => by
    rw [exGo_nil]
    split
    · simp
    · exact ⟨fill_isR hl, by simp only; omega⟩
  | f :: fs, l, p, nl, hl => by
    rw [exGo_cons]
    split
    · exact exGo_isR c v fs l p true hl
    · split
      · simp
      · rename_i r hr
        split
        · simp
        · refine exGo_isR c v fs _ r false (fun x hx => ?_)
          rw [addOf_mem] at hx
          rcases hx with hx | rfl
          · exact fill_isR hl x hx
          · exact sub_isR hr
theorem expand_isR (s c v : Str) : (∀ x ∈ (expandOf s c v).1, isR x = true) ∧ (expandOf s c v).1.length ≤ 8 := by
  unfold expandOf
  split
  · simp
  · split
    · simp
    · exact exGo_isR c v _ [] [] false (by simp)

set_option maxHeartbeats 2000000 in
theorem insert_any (w : World) (s cl sv r : ByteArray) (hg : Glob w) (ss : s.size < 70000) (sc : cl.size < 90000) (sn : sv.size < 90000) (sr : r.size < 90000) :
    Calls Tryd.prog 24 #[.string s, .string cl, .string sv, .string r] w fun e w' => e = .returned (.tuple #[.string ⟨(insertOf s.data.toList cl.data.toList sv.data.toList r.data.toList).1.toArray⟩, .int .i64 (insertOf s.data.toList cl.data.toList sv.data.toList r.data.toList).2]) ∧ Below w.heap.size w w' := by
  have HG := Lib.hid hg
  have hX := fun (e : Ending) w2 (h : ExpPost w w2 (expandOf s.data.toList cl.data.toList sv.data.toList) e) => h
  have hI : insertOf s.data.toList cl.data.toList sv.data.toList r.data.toList = if (expandOf s.data.toList cl.data.toList sv.data.toList).2 ≠ 0 then ([], (expandOf s.data.toList cl.data.toList sv.data.toList).2) else if isR r.data.toList = false then ([], 1) else if r.data.toList = cl.data.toList ∨ r.data.toList = sv.data.toList ∨ r.data.toList ∈ (expandOf s.data.toList cl.data.toList sv.data.toList).1 then (s.data.toList, 0) else compressOf ((expandOf s.data.toList cl.data.toList sv.data.toList).1 ++ [r.data.toList]) := rfl
  obtain ⟨hri, hl8⟩ := expand_isR s.data.toList cl.data.toList sv.data.toList
  have hE := expand_any w s cl sv hg ss sc sn
  obtain ⟨Y, hY⟩ : ∃ Y, Y = insertOf s.data.toList cl.data.toList sv.data.toList r.data.toList := ⟨_, rfl⟩
  rw [← hY] at hI ⊢
  unfold ExpPost at hE
  generalize (expandOf s.data.toList cl.data.toList sv.data.toList).1 = L at *
  generalize (expandOf s.data.toList cl.data.toList sv.data.toList).2 = E at *
  clear hX hg hY
  by_cases h1 : E = 0
  · rw [if_neg (by simpa using h1)] at hI
    subst h1
    cases hr : isR r.data.toList with
    | false =>
      rw [if_pos hr] at hI
      have HI := Lib.hid hI
      clear hI
      go_enter Tryd.func24, Tryd.ntmps24
      go_wp2_with (first
        | (go_at_call 17; refine hE.mono ?_; rintro e w2 ⟨ad, c, rfl, ho, hb⟩)
        | (go_at_call 28; refine (is_any _ _ (HG.out.below hb) (by assumption)).mono ?_; rintro e w3 ⟨rfl, hb3⟩; rw [hr]))
      go_ret2
      exact ⟨by rw [HI.out]; rfl, hb.trans (hb3.mono hb.size)⟩
    | true =>
      rw [if_neg (by rw [hr]; simp)] at hI
      have hq1 := eq_text r cl
      have hq2 := eq_text r sv
      by_cases h2 : r.data.toList = cl.data.toList
      · rw [if_pos (.inl h2)] at hI
        rw [decide_eq_true h2] at hq1
        have HI := Lib.hid hI
        clear hI h2 hq2
        go_enter Tryd.func24, Tryd.ntmps24
        go_wp2_with (first
          | (go_at_call 17; refine hE.mono ?_; rintro e w2 ⟨ad, c, rfl, ho, hb⟩)
          | (go_at_call 28; refine (is_any _ _ (HG.out.below hb) (by assumption)).mono ?_; rintro e w3 ⟨rfl, hb3⟩; rw [hr]))
        go_ret2
        exact ⟨by rw [HI.out]; rfl, hb.trans (hb3.mono hb.size)⟩
      · rw [decide_eq_false h2] at hq1
        by_cases h3 : r.data.toList = sv.data.toList
        · rw [if_pos (.inr (.inl h3))] at hI
          rw [decide_eq_true h3] at hq2
          have HI := Lib.hid hI
          clear hI h2 h3
          go_enter Tryd.func24, Tryd.ntmps24
          go_wp2_with (first
            | (go_at_call 17; refine hE.mono ?_; rintro e w2 ⟨ad, c, rfl, ho, hb⟩)
            | (go_at_call 28; refine (is_any _ _ (HG.out.below hb) (by assumption)).mono ?_; rintro e w3 ⟨rfl, hb3⟩; rw [hr]))
          go_ret2
          exact ⟨by rw [HI.out]; rfl, hb.trans (hb3.mono hb.size)⟩
        · rw [decide_eq_false h3] at hq2
          by_cases h4 : r.data.toList ∈ L
          · rw [if_pos (.inr (.inr h4))] at hI
            have hd : decide (r.data.toList ∈ L) = true := decide_eq_true h4
            have HI := Lib.hid hI
            clear hI h2 h3 h4
            go_enter Tryd.func24, Tryd.ntmps24
            go_wp2_with (first
              | (go_at_call 17; refine hE.mono ?_; rintro e w2 ⟨ad, c, rfl, ho, hb⟩)
              | (go_at_call 28; refine (is_any _ _ (HG.out.below hb) (by assumption)).mono ?_; rintro e w3 ⟨rfl, hb3⟩; rw [hr])
              | (go_at_call 41; refine (contains_any _ _ _ _ L r.data.toList (At.owns (own_below ho hb3)) (by omega)).mono ?_; rintro e w4 ⟨rfl, h5⟩; replace h5 := h5.symm; subst h5; rw [hd]))
            go_ret2
            exact ⟨by rw [HI.out]; rfl, hb.trans (hb3.mono hb.size)⟩
          · rw [if_neg (by rintro (h | h | h); exact h2 h; exact h3 h; exact h4 h)] at hI
            have hd : decide (r.data.toList ∈ L) = false := decide_eq_false h4
            have hsz : ∀ x ∈ L ++ [r.data.toList], x.length < 90000 := by
              intro x hx
              rw [List.mem_append, List.mem_singleton] at hx
              rcases hx with hx | rfl
              · have := isR_short' (hri x hx); omega
              · exact sr
            have HI := Lib.hid hI
            have HSZ := Lib.hid hsz
            clear hI h2 h3 h4 hsz hri
            go_enter Tryd.func24, Tryd.ntmps24
            go_wp2_with (first
              | (go_at_call 17; refine hE.mono ?_; rintro e w2 ⟨ad, c, rfl, ho, hb⟩)
              | (go_at_call 28; refine (is_any _ _ (HG.out.below hb) (by assumption)).mono ?_; rintro e w3 ⟨rfl, hb3⟩; rw [hr])
              | (go_at_call 41; refine (contains_any _ _ _ _ L r.data.toList (At.owns (own_below ho hb3)) (by omega)).mono ?_; rintro e w4 ⟨rfl, h5⟩; replace h5 := h5.symm; subst h5; rw [hd])
              | (at_builtin; refine wpList_append_text _ rfl (.tmp 42) (.tmp 44) rfl w.heap.size ad L.length c L rfl ((own_below ho hb3).alloc _) w3.heap.size r.data.toList rfl (heap_alloc_new _ _) (by omega) (Nat.le_trans (Nat.le_trans hb.size hb3.size) (by simp)) ?_; intro g7 cap7 w7 hown7 hb7; have acc7 := ((hb.trans (hb3.mono hb.size)).alloc (Nat.le_trans hb.size hb3.size) _).trans hb7)
              | (go_at_call 21; refine (compress_any _ (HG.out.below acc7) _ _ _ (L ++ [r.data.toList]) (At.owns hown7) (by omega) HSZ.out).mono ?_; rintro e w8 ⟨rfl, hb8⟩; rw [← HI.out]))
            go_ret2
            exact ⟨rfl, acc7.trans (hb8.mono acc7.size)⟩
  · rw [if_pos (by simpa using h1)] at hI
    have HI := Lib.hid hI
    have hEz : (E : Int) ≠ 0 := by omega
    have hEb : ((E : Int) != 0) = true := by simpa using h1
    clear hI h1
    go_enter Tryd.func24, Tryd.ntmps24
    go_wp2_with (go_at_call 17; refine hE.mono ?_; rintro e w2 ⟨ad, c, rfl, ho, hb⟩)
    go_ret2
    exact ⟨by rw [HI.out]; rfl, hb⟩
end Go.Proofs.YtjbdegcmolimoaaDoor
