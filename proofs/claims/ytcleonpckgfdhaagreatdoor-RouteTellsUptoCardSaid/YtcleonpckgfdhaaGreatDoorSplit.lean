/-
  legateref5.Split.
-/
import Derived.Test.YtcleonpckgfdhaaGreatDoorKnown
set_option linter.unusedVariables false
set_option linter.unusedSimpArgs false
namespace Go.Proofs.YtcleonpckgfdhaaGreatDoor
open Go Go.RowKit Go.Lib Go.Shelf

theorem splitOn_snoc (c b : UInt8) (p : Str) : ∀ l x, splitOn c p = l ++ [x] → splitOn c (p ++ [b]) = if b = c then l ++ [x, []] else l ++ [x ++ [b]] := by
  induction p with
  | nil =>
    intro l x h
    have : l = [] ∧ x = [] := by
      cases l with
      | nil => simp [splitOn] at h; exact ⟨rfl, h⟩
      | cons y l => simp [splitOn] at h
    obtain ⟨rfl, rfl⟩ := this
    by_cases hb : b = c <;> simp [splitOn, hb]
  | cons a p ih =>
    intro l x h
    simp only [List.cons_append, splitOn] at h ⊢
    by_cases hac : a = c
    · rw [if_pos hac] at h ⊢
      cases l with
      | nil => simp at h; exact absurd h.2 (splitOn_ne c p)
      | cons y l =>
        simp only [List.cons_append, List.cons.injEq] at h
        rw [ih l x h.2, ← h.1]
        split <;> rfl
    · rw [if_neg hac] at h ⊢
      cases hs : splitOn c p with
      | nil => exact absurd hs (splitOn_ne c p)
      | cons y r =>
        rw [hs] at h
        simp only at h
        cases l with
        | nil =>
          simp only [List.nil_append, List.cons.injEq] at h
          obtain ⟨rfl, rfl⟩ := h
          rw [ih [] y hs]
          by_cases hb : b = c
          · simp [hb]
          · simp [hb]
        | cons z l =>
          simp only [List.cons_append, List.cons.injEq] at h
          have := ih (y :: l) x (by rw [hs, h.2]; rfl)
          rw [this, ← h.1]
          by_cases hb : b = c
          · simp [hb]
          · simp [hb]

theorem ext_eq (s : ByteArray) (a b : Nat) : s.extract a b = ⟨((s.data.toList.take b).drop a).toArray⟩ := by
  apply ByteArray.ext
  apply Array.ext'
  simp [Array.toList_extract, List.extract_eq_take_drop, List.drop_take]

theorem take_next (s : ByteArray) (i : Nat) (h : i < s.size) : s.data.toList.take (i + 1) = s.data.toList.take i ++ [s[i]'h] := by
  have hl : i < s.data.toList.length := h
  rw [List.take_succ_eq_append_getElem hl]
  rfl

set_option maxHeartbeats 2000000 in
theorem refsplit_any (w : World) (s : ByteArray) (c : UInt8) (hs : s.size < 1100000) :
    Calls Tryz.prog 64 #[.string s, .int .u8 (c.toNat : Int)] w fun e w' => RowPost w w' (splitOn c s.data.toList).length (splitOn c s.data.toList) e := by
  go_enter Tryz.func64, Tryz.ntmps64
  go_wp2
  go_loopg [5, 6, 7] s.size (fun gg s3 s4 s5 wr => ∃ (i from_ : Nat) (ad : Option Addr) (cc : Nat) (l : List Str), i ≤ s.size ∧ from_ ≤ i ∧ s.size - i ≤ gg ∧ s5 = .int .i64 i ∧ s4 = .int .i64 from_ ∧ s3 = .slice ad l.length cc ∧ l.length ≤ i ∧ Aside (splitOn c (s.data.toList.take i) = l ++ [(s.data.toList.take i).drop from_]) ∧ Aside (wr.ownsRow w.heap.size 9 1 (.slice ad l.length cc) l.length (strs l)) ∧ Aside (Below w.heap.size w wr ∧ w.heap.size ≤ wr.heap.size))
  case atStart => exact ⟨0, 0, none, 0, [], by omega, by omega, by omega, rfl, rfl, rfl, by simp, show splitOn c (s.data.toList.take 0) = [] ++ [(s.data.toList.take 0).drop 0] by simp [splitOn], World.ownsRow_nil _ _ _ _, Below.refl _ _, Nat.le_refl _⟩
  case round =>
    obtain ⟨i, from_, ad, cc, l, hi, hf, hgg, rfl, rfl, rfl, hl, HS, HO, HB⟩ := hrel
    by_cases hlt : i < s.size
    · have hltz : (i : Int) < (s.size : Int) := by omega
      have hst := splitOn_snoc c (s[i]'hlt) (s.data.toList.take i) l _ HS.out
      rw [← take_next s i hlt] at hst
      have HST := Lib.hid hst
      have hfz : (from_ : Int) ≤ (i : Int) := by omega
      clear hst
      by_cases hc : s[i]'hlt = c
      · have hcb : (((s[i]'hlt).toNat : Int) == (c.toNat : Int)) = true := by rw [hc]; simp
        have HCE := Lib.hid hc
        clear hc
        go_wp2_with (at_builtin; refine wpList_append_text _ rfl (.tmp 19) (.tmp 24) rfl w.heap.size ad l.length cc l rfl (HO.out.alloc _) wr.heap.size ((s.data.toList.take i).drop from_) rfl (by rw [← ext_eq]; exact heap_alloc_new _ _) (by omega) (by have := HB.out.2; simp; omega) ?_; intro g6 cap6 w8 hown7 hb7)
        have hb8 : Below w.heap.size w w8 := (HB.out.1.trans (((Below.refl w.heap.size wr).alloc HB.out.2 _))).trans hb7
        have hs8 : splitOn c (s.data.toList.take (i + 1)) = (l ++ [(s.data.toList.take i).drop from_]) ++ [(s.data.toList.take (i + 1)).drop (i + 1)] := by
          rw [HST.out, if_pos HCE.out, List.drop_of_length_le (i := i + 1) (l := s.data.toList.take (i + 1)) (by simp; omega)]
          simp
        have H8 := Lib.hid hown7
        have HS8 := Lib.hid hs8
        have HB8 := Lib.hid hb8
        clear hown7 hb7 hb8 hs8
        go_roundg (s.size - (i + 1))
        case measure => omega
        case rel =>
          refine ⟨i + 1, i + 1, some ⟨g6, 0, none⟩, cap6, l ++ [(s.data.toList.take i).drop from_], by omega, by omega, by omega, by go_num, by go_num, ?_, by simp; omega, HS8.out, ?_, HB8.out, HB8.out.size⟩
          · simp
          · rw [show (l ++ [(s.data.toList.take i).drop from_]).length = l.length + 1 by simp]; exact H8.out
      · have hcb : (((s[i]'hlt).toNat : Int) == (c.toNat : Int)) = false := by
          rw [beq_eq_false_iff_ne]
          intro e
          exact hc (UInt8.toNat_inj.1 (by omega))
        have hs8 : splitOn c (s.data.toList.take (i + 1)) = l ++ [(s.data.toList.take (i + 1)).drop from_] := by
          rw [HST.out, if_neg hc, take_next s i hlt, List.drop_append_of_le_length (by have e : s.data.toList.length = s.size := rfl; simp; omega)]
        have HS8 := Lib.hid hs8
        clear hs8
        go_wp2
        go_roundg (s.size - (i + 1))
        case measure => omega
        case rel => exact ⟨i + 1, from_, ad, cc, l, by omega, by omega, by omega, by go_num, rfl, rfl, by omega, HS8.out, HO.out, HB.out⟩
    · have hi' : i = s.size := by omega
      subst hi'
      have hfz : (from_ : Int) ≤ (s.size : Int) := by omega
      have hend : splitOn c s.data.toList = l ++ [(s.data.toList.take s.size).drop from_] := by
        have h := HS.out
        have e : s.data.toList.take s.size = s.data.toList := List.take_of_length_le (Nat.le_refl _)
        rw [e] at h ⊢
        exact h
      have HEN := Lib.hid hend
      clear hend
      go_wp2_with (at_builtin; refine wpList_append_text _ rfl (.tmp 28) (.tmp 32) rfl w.heap.size ad l.length cc l rfl (HO.out.alloc _) wr.heap.size ((s.data.toList.take s.size).drop from_) rfl (by rw [← ext_eq]; exact heap_alloc_new _ _) (by omega) (by have := HB.out.2; simp; omega) ?_; intro g6 cap6 w8 hown7 hb7)
      have hb8 : Below w.heap.size w w8 := (HB.out.1.trans (((Below.refl w.heap.size wr).alloc HB.out.2 _))).trans hb7
      go_ret
      rw [HEN.out]
      refine ⟨some ⟨g6, 0, none⟩, cap6, by simp, ?_, ?_, hb8⟩
      · rw [show (l ++ [(s.data.toList.take s.size).drop from_]).length = l.length + 1 by simp]; exact hown7
      · rcases hown7.2 with ⟨h, _⟩ | ⟨g', cap', cur, h, _, _, h3, _⟩
        · simp at h
        · simp only [Value.slice.injEq] at h
          rw [h.2.2]
          simpa using h3
end Go.Proofs.YtcleonpckgfdhaaGreatDoor
