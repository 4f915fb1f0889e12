/-
  name.labels.
-/
import Derived.Test.YtcleonpckgfdhaaGreatDoorCf
import Derived.Lib.OwnBridge
set_option linter.unusedVariables false
set_option linter.unusedSimpArgs false
namespace Go.Proofs.YtcleonpckgfdhaaGreatDoor
open Go Go.RowKit Go.Lib Go.Shelf

/-- internal/bytealg.MaxLen holds a number, whatever. -/
def Glob (w : World) : Prop := ∃ m : Int, w.cell? ⟨0, 0, none⟩ = some (.int .i64 m)
theorem Glob.lt {w : World} (h : Glob w) : 0 < w.heap.size := by obtain ⟨m, hm⟩ := h; exact World.block_lt_of_cell? _ _ hm
theorem Glob.below {w w' : World} (h : Glob w) (hb : Below w.heap.size w w') : Glob w' := by
  have := h.lt
  obtain ⟨m, hm⟩ := h
  exact ⟨m, (hb.cell (p := ⟨0, 0, none⟩) this).trans hm⟩
theorem Glob.alloc {w : World} (h : Glob w) (o : Obj) : Glob (w.alloc o) := h.below ((Below.refl _ _).alloc (Nat.le_refl _) o)

abbrev enc1 : Str → Value := encStr
theorem strs_eq (l : List Str) : strs l = l.map encStr := rfl

theorem At.owns {w : World} {base : Nat} {ad : Option Addr} {n c : Nat} {l : List Str} (h : w.ownsRow base 9 1 (.slice ad n c) n (strs l)) : At w ad n l := by
  have hl : l.length = n := by have := h.1; rw [strs_length] at this; omega
  refine ⟨hl, fun hn => ?_⟩
  obtain ⟨g, cap, e, hb, hlt⟩ := World.ownsRow.form h hn
  simp only [Value.slice.injEq, true_and] at e
  obtain ⟨rfl, rfl⟩ := e
  refine ⟨g, 0, rfl, hlt, fun j hj => ?_⟩
  rw [Nat.zero_add, h.cellAt j (by omega), strs, List.getElem?_map, List.getElem?_eq_getElem (by omega), getElem!_pos l j (by omega)]
  rfl

theorem split_any (w : World) (s : ByteArray) (c : UInt8) (hg : Glob w) (hs : s.size < 100000) :
    Calls Tryz.prog 54 #[.string s, .string ⟨#[c]⟩] w fun e w' => e = .returned (.slice (some ⟨w.heap.size, 0, none⟩) (splitOn c s.data.toList).length (splitOn c s.data.toList).length) ∧
      w'.ownsRow w.heap.size 9 1 (.slice (some ⟨w.heap.size, 0, none⟩) (splitOn c s.data.toList).length (splitOn c s.data.toList).length) (splitOn c s.data.toList).length (strs (splitOn c s.data.toList)) ∧ Below w.heap.size w w' := by
  obtain ⟨m, hm⟩ := hg
  have hcount : Lib.countB s ⟨#[c]⟩ = s.data.toList.count c := by
    unfold Lib.countB
    exact Lib.count_one _ _
  have hmap : (Lib.splitB ⟨#[c]⟩ 0 (Lib.countB s ⟨#[c]⟩) s).map (·.data.toList) = splitOn c s.data.toList := by
    rw [Lib.splitB_data, hcount]
    exact splitK_one c _ _ rfl
  have hlen : Lib.countB s ⟨#[c]⟩ + 1 = (splitOn c s.data.toList).length := by
    rw [← hmap, List.length_map, Lib.splitB_all ⟨#[c]⟩ (Nat.le_refl 1) 0 _ s rfl]
  have hvals : (Lib.splitB ⟨#[c]⟩ 0 (Lib.countB s ⟨#[c]⟩) s).map Value.string = strs (splitOn c s.data.toList) := by
    rw [strs_eq, ← hmap, map_encStr]
  have hsz : (splitOn c s.data.toList).length ≤ s.size + 1 := by
    rw [← hlen, hcount]
    have := List.count_le_length (a := c) (l := s.data.toList)
    have e : s.data.toList.length = s.size := rfl
    omega
  refine (Tryz.strings_Split s ⟨#[c]⟩ m w (by omega) hm (Nat.le_refl 1)).mono ?_
  rintro e w' ⟨rfl, rfl⟩
  rw [hlen, hvals]
  refine ⟨rfl, ?_, (Below.refl _ _).alloc (Nat.le_refl _) _⟩
  exact World.ownsRow_lit w (strs (splitOn c s.data.toList)).toArray _ (Nat.le_refl _) (by unfold maxLen; omega) (by simp [strs_length])

theorem reverse_row (w : World) (base : Nat) (ad : Option Addr) (c : Nat) (l : List Str) (h : w.ownsRow base 9 1 (.slice ad l.length c) l.length (strs l)) :
    Calls Tryz.prog 56 #[.slice ad l.length c] w fun e w' => e = .returned (.tuple #[]) ∧ w'.ownsRow base 9 1 (.slice ad l.length c) l.length (strs l.reverse) ∧ Below base w w' := by
  by_cases hl : l = []
  · subst hl
    refine (Tryz.slices_Reverse_string_empty ad c w).mono ?_
    rintro e w' ⟨rfl, rfl⟩
    exact ⟨rfl, h, Below.refl _ _⟩
  · have hl0 : 0 < l.length := List.length_pos_iff.2 hl
    obtain ⟨g, cap, e, hb, hlt⟩ := World.ownsRow.form h hl0
    have hv : Value.slice ad l.length c ≠ .slice none 0 0 := by rw [e]; simp
    obtain ⟨g', cap', e', hb', hlt', hcap, hmax, _, hH⟩ := holds_of_ownsRow (zs := l) h hv
    rw [e'] at h ⊢
    refine (Tryz.slices_Reverse_string g' 0 cap' l w hH (by unfold maxLen at hmax; omega)).mono ?_
    rintro e2 w' ⟨rfl, q, rfl⟩
    refine ⟨rfl, ?_, below_putRow (Below.refl _ _) hb'⟩
    have := ownsRow_putRow (q := q) (k := l.length) (ys := l.reverse) h (by simp) (Nat.le_refl _)
    rw [show l.reverse.take l.length = l.reverse by rw [← List.length_reverse, List.take_length]] at this
    exact this

/-- What labels leaves. -/
def LabPost (w w' : World) (s : Str) (e : Ending) : Prop := ∃ ad c, e = .returned (.tuple #[.slice ad (labelsOf s).1.length c, .int .i64 (labelsOf s).2]) ∧ At w' ad (labelsOf s).1.length (labelsOf s).1 ∧ (labelsOf s).1.length ≤ c ∧ Below w.heap.size w w'

theorem labels_bad {s : Str} (h : 4 < (parts s).1.length ∨ (parts s).1.any (fun s => !word upB s) = true) : labelsOf s = ([], 0) := by unfold labelsOf; rw [if_pos h]
theorem labels_fine {s : Str} (h1 : ¬ 4 < (parts s).1.length) (h2 : (parts s).1.any (fun s => !word upB s) = false) : labelsOf s = parts s := by
  unfold labelsOf
  rw [if_neg]
  rintro (h | h)
  · exact h1 h
  · rw [h2] at h; cases h

theorem lab_end {w w' : World} {s : Str} {L : List Str} {k : Nat} {ad : Option Addr} {c n : Nat} (hp : parts s = (L, k)) (h4 : ¬ (4 : Int) < (n : Int)) (hb : L.any (fun s => !word upB s) = false) (hA : At w' ad n L) (hc : n ≤ c) (hB : Below w.heap.size w w') :
    LabPost w w' s (.returned (.tuple #[.slice ad n c, .int .i64 k])) := by
  have hl := hA.len
  have e := labels_fine (s := s) (by rw [hp]; simp only; omega) (by rw [hp]; exact hb)
  rw [hp] at e
  refine ⟨ad, c, by rw [e]; simp only; rw [hl], ?_, by rw [e]; simp only; omega, hB⟩
  rw [e]
  simp only
  rw [hl]
  exact hA
theorem lab_end0 {w w' : World} {s : Str} {L : List Str} {k n : Nat} (hp : parts s = (L, k)) (hl : L.length = n) (h4 : (4 : Int) < (n : Int) ∨ L.any (fun s => !word upB s) = true) (hB : Below w.heap.size w w') :
    LabPost w w' s (.returned (.tuple #[.slice none 0 0, .int .i64 0])) := by
  have e := labels_bad (s := s) (by rw [hp]; simp only; rcases h4 with h | h; exact .inl (by omega); exact .inr h)
  refine ⟨none, 0, by rw [e]; rfl, ?_, by rw [e]; simp, hB⟩
  rw [e]
  exact At.nil _ _

set_option maxHeartbeats 1000000 in
theorem labels_dom (w : World) (s : ByteArray) (L : List Str) (hg : Glob w) (hs : s.size < 90000) (hp : Lib.hasPrefix s.data.toList [47] = false) (hL : splitOn 46 s.data.toList = L) (hpt : parts s.data.toList = (L.reverse, 1)) :
    Calls Tryz.prog 39 #[.string s] w fun e w' => LabPost w w' s.data.toList e := by
  have hS := split_any w s 46 hg (by omega)
  rw [hL] at hS
  have hpt := Lib.hid hpt
  have hlen : L.length ≤ s.size + 1 := by
    have h1 := splitOn_len 46 s.data.toList
    have e : s.data.toList.length = s.size := rfl
    rw [hL] at h1
    omega
  clear hL
  by_cases h4 : (4 : Int) < (L.length : Int)
  · go_enter Tryz.func39, Tryz.ntmps39
    go_wp2_with (first
      | (go_at_call 54; refine hS.mono ?_; rintro e w1 ⟨rfl, ho1, hb1⟩)
      | (go_at_call 55; refine (Tryz.strings_HasPrefix s _ _).mono ?_; rintro e w2 ⟨rfl, rfl⟩)
      | (go_at_call 56; refine (reverse_row _ w.heap.size _ _ _ ho1).mono ?_; rintro e w3 ⟨rfl, ho3, hb3⟩))
    go_ret2
    exact lab_end0 (n := L.length) hpt.out (by simp) (.inl h4) (hb1.trans hb3)
  · cases hb : L.reverse.any (fun s => !word upB s)
    · have HBD := Lib.hid hb
      go_enter Tryz.func39, Tryz.ntmps39
      go_wp2_with (first
        | (go_at_call 54; refine hS.mono ?_; rintro e w1 ⟨rfl, ho1, hb1⟩)
        | (go_at_call 55; refine (Tryz.strings_HasPrefix s _ _).mono ?_; rintro e w2 ⟨rfl, rfl⟩)
        | (go_at_call 56; refine (reverse_row _ w.heap.size _ _ _ ho1).mono ?_; rintro e w3 ⟨rfl, ho3, hb3⟩)
        | (go_at_call 29; refine (badAny_any _ _ _ _ _ (At.owns ho3) (by omega)).mono ?_; rintro e w4 ⟨rfl, hb4⟩; rw [HBD.out]))
      go_ret2
      have h3 := hb1.trans hb3
      exact lab_end hpt.out (by omega) HBD.out ((At.owns ho3).below hb4) (Nat.le_refl _) (h3.trans (hb4.mono h3.size))
    · have HBD := Lib.hid hb
      go_enter Tryz.func39, Tryz.ntmps39
      go_wp2_with (first
        | (go_at_call 54; refine hS.mono ?_; rintro e w1 ⟨rfl, ho1, hb1⟩)
        | (go_at_call 55; refine (Tryz.strings_HasPrefix s _ _).mono ?_; rintro e w2 ⟨rfl, rfl⟩)
        | (go_at_call 56; refine (reverse_row _ w.heap.size _ _ _ ho1).mono ?_; rintro e w3 ⟨rfl, ho3, hb3⟩)
        | (go_at_call 29; refine (badAny_any _ _ _ _ _ (At.owns ho3) (by omega)).mono ?_; rintro e w4 ⟨rfl, hb4⟩; rw [HBD.out]))
      go_ret2
      have h3 := hb1.trans hb3
      exact lab_end0 (n := L.length) hpt.out (by simp) (.inr HBD.out) (h3.trans (hb4.mono h3.size))

set_option maxHeartbeats 1000000 in
theorem labels_oth (w : World) (s : ByteArray) (L : List Str) (hg : Glob w) (hs : s.size < 90000) (hp : Lib.hasPrefix s.data.toList [47] = true) (h1 : 1 ≤ s.size) (hL : splitOn 47 (s.extract 1 s.size).data.toList = L) (hpt : parts s.data.toList = (L, 2)) :
    Calls Tryz.prog 39 #[.string s] w fun e w' => LabPost w w' s.data.toList e := by
  have hS := split_any w s 46 hg (by omega)
  have hS2 := fun w hg => split_any w (s.extract 1 s.size) 47 hg (by rw [ByteArray.size_extract]; omega)
  rw [hL] at hS2
  have HG := Lib.hid hg
  have hpt := Lib.hid hpt
  have hlen : L.length ≤ s.size + 1 := by
    have h1 := splitOn_len 47 (s.extract 1 s.size).data.toList
    have e : (s.extract 1 s.size).data.toList.length = (s.extract 1 s.size).size := rfl
    rw [hL, e, ByteArray.size_extract] at h1
    omega
  clear hL
  by_cases h4 : (4 : Int) < (L.length : Int)
  · go_enter Tryz.func39, Tryz.ntmps39
    go_wp2_with (first
      | (go_at_call 54; refine hS.mono ?_; rintro e w1 ⟨rfl, _, hb1⟩; clear hS)
      | (go_at_call 55; refine (Tryz.strings_HasPrefix s _ _).mono ?_; rintro e w2 ⟨rfl, rfl⟩)
      | (go_at_call 54; refine (hS2 _ (HG.out.below hb1)).mono ?_; rintro e w3 ⟨rfl, ho3, hb3⟩))
    go_ret2
    exact lab_end0 (n := L.length) hpt.out rfl (.inl h4) (hb1.trans (hb3.mono hb1.size))
  · cases hb : L.any (fun s => !word upB s)
    · have HBD := Lib.hid hb
      go_enter Tryz.func39, Tryz.ntmps39
      go_wp2_with (first
        | (go_at_call 54; refine hS.mono ?_; rintro e w1 ⟨rfl, _, hb1⟩; clear hS)
        | (go_at_call 55; refine (Tryz.strings_HasPrefix s _ _).mono ?_; rintro e w2 ⟨rfl, rfl⟩)
        | (go_at_call 54; refine (hS2 _ (HG.out.below hb1)).mono ?_; rintro e w3 ⟨rfl, ho3, hb3⟩)
        | (go_at_call 29; refine (badAny_any _ _ _ _ _ (At.owns ho3) (by omega)).mono ?_; rintro e w4 ⟨rfl, hb4⟩; rw [HBD.out]))
      go_ret2
      have h3 := hb1.trans (hb3.mono hb1.size)
      exact lab_end hpt.out (by omega) HBD.out ((At.owns ho3).below hb4) (Nat.le_refl _) (h3.trans (hb4.mono h3.size))
    · have HBD := Lib.hid hb
      go_enter Tryz.func39, Tryz.ntmps39
      go_wp2_with (first
        | (go_at_call 54; refine hS.mono ?_; rintro e w1 ⟨rfl, _, hb1⟩; clear hS)
        | (go_at_call 55; refine (Tryz.strings_HasPrefix s _ _).mono ?_; rintro e w2 ⟨rfl, rfl⟩)
        | (go_at_call 54; refine (hS2 _ (HG.out.below hb1)).mono ?_; rintro e w3 ⟨rfl, ho3, hb3⟩)
        | (go_at_call 29; refine (badAny_any _ _ _ _ _ (At.owns ho3) (by omega)).mono ?_; rintro e w4 ⟨rfl, hb4⟩; rw [HBD.out]))
      go_ret2
      have h3 := hb1.trans (hb3.mono hb1.size)
      exact lab_end0 (n := L.length) hpt.out rfl (.inr HBD.out) (h3.trans (hb4.mono h3.size))

theorem labels_any (w : World) (s : ByteArray) (hg : Glob w) (hs : s.size < 90000) :
    Calls Tryz.prog 39 #[.string s] w fun e w' => LabPost w w' s.data.toList e := by
  cases hp : Lib.hasPrefix s.data.toList [47]
  · refine labels_dom w s _ hg hs hp rfl ?_
    unfold parts
    split
    · rename_i t e
      rw [e] at hp
      simp [Lib.hasPrefix] at hp
    · rfl
  · obtain ⟨t, ht⟩ : ∃ t, s.data.toList = 47 :: t := by
      cases h : s.data.toList with
      | nil => rw [h] at hp; simp [Lib.hasPrefix] at hp
      | cons b t =>
        rw [h] at hp
        simp [Lib.hasPrefix] at hp
        exact ⟨t, by rw [hp]⟩
    have hsz : s.size = t.length + 1 := by
      have e : s.data.toList.length = s.size := rfl
      rw [ht] at e
      simpa using e.symm
    have hx : (s.extract 1 s.size).data.toList = t := by
      rw [Lib.extract_to_end, ht]
      rfl
    refine labels_oth w s _ hg hs hp (by omega) rfl ?_
    rw [hx, ht]
    rfl

end Go.Proofs.YtcleonpckgfdhaaGreatDoor
