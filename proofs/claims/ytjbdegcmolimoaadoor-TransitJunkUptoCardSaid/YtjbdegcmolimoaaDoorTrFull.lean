/-
  TransitFull: the walk of the law.
-/
import Derived.Test.YtjbdegcmolimoaaDoorTrEnds
import Derived.Test.YtjbdegcmolimoaaDoorCanon
set_option linter.unusedVariables false
set_option linter.unusedSimpArgs false
namespace Go.Proofs.YtjbdegcmolimoaaDoor
open Go Go.RowKit Go.Lib Go.Shelf

theorem bytes_one (w : World) (y : UInt8) : (convert 39 9 (.slice (some ⟨w.heap.size, 0, none⟩) 1 1)).run Tryd.prog (w.alloc (.cells #[.int .u8 (y.toNat : Int)] 5)) = .ok (.string ⟨#[y]⟩) (w.alloc (.cells #[.int .u8 (y.toNat : Int)] 5)) := by
  refine run_convert_bytes_back (w.alloc (.cells #[.int .u8 (y.toNat : Int)] 5)) 39 9 5 ⟨w.heap.size, 0, none⟩ 1 [y] Tryd.underlying39 Tryd.underlying5 Tryd.underlying9 (fun j hj => ?_)
  have hj0 : j = 0 := by simp at hj; omega
  subst hj0
  have hadd : (⟨w.heap.size, 0, none⟩ : Addr).add 0 = ⟨w.heap.size, 0, none⟩ := by unfold Addr.add; split <;> simp_all
  rw [hadd]
  exact (cell_of_row _ _ _ _ _ _ (heap_alloc_new w _)).trans rfl

def letter (i : Nat) : UInt8 := UInt8.ofNat (65 + i)
theorem letter_int {i : Nat} (h : i ≤ 20) : (65 : Int) + (i : Int) = ((letter i).toNat : Int) := by
  have : (letter i).toNat = 65 + i := by
    unfold letter
    rw [UInt8.toNat_ofNat']
    omega
  omega
theorem alph_len (n : Nat) : (alph n).length = n := by simp [alph]
theorem alph_join0 : joinOn 44 (alph 1) = [65, 46, 69, 68, 85] := rfl
theorem alph_join {i : Nat} (h : 0 < i) : joinOn 44 (alph (i + 1)) = joinOn 44 (alph i) ++ 44 :: [letter i, 46, 69, 68, 85] := by
  rw [alph_succ, joinOn_snoc 44 _ _ (by intro e; have := alph_len i; rw [e] at this; simp at this; omega)]
  rfl
theorem alph_size (n : Nat) : (joinOn 44 (alph n)).length ≤ n * 6 := by
  have := joinOn_len2 44 (alph n) 5 (fun x hx => by
    simp only [alph, List.mem_map] at hx
    obtain ⟨i, _, rfl⟩ := hx
    simp)
  rw [alph_len] at this
  exact this

theorem transitFull_out (n : Int) (w : World) (hg : Glob w) (hn : n < 0 ∨ 20 < n) :
    Calls Tryd.prog 7 #[.int .i64 n] w fun e w' => e = .returned (.bool true) ∧ Below w.heap.size w w' := by
  have acc : Below w.heap.size w w := Below.refl _ _
  have HG := Lib.hid hg
  clear hg
  by_cases h0 : n < 0
  · clear hn
    go_enter Tryd.func7, Tryd.ntmps7
    go_wp2_with (go_at_call 18; refine (known_any _ (HG.out.below acc)).mono ?_; rintro e w7 ⟨rfl, hb⟩; replace acc := acc.trans (hb.mono acc.size); clear hb)
    go_ret
    exact ⟨rfl, acc⟩
  · have h2 : 20 < n := by omega
    clear hn
    go_enter Tryd.func7, Tryd.ntmps7
    go_wp2_with (go_at_call 18; refine (known_any _ (HG.out.below acc)).mono ?_; rintro e w7 ⟨rfl, hb⟩; replace acc := acc.trans (hb.mono acc.size); clear hb)
    go_ret
    exact ⟨rfl, acc⟩

set_option maxHeartbeats 4000000 in
set_option maxRecDepth 100000 in
theorem transitFull_in (n : Nat) (w : World) (hg : Glob w) (hn : n ≤ 20) :
    Calls Tryd.prog 7 #[.int .i64 n] w fun e w' => e = .returned (.bool true) ∧ Below w.heap.size w w' := by
  have acc : Below w.heap.size w w := Below.refl _ _
  have hnz : (n : Int) ≤ 20 := by omega
  have hn0 : ¬ (n : Int) < 0 := by omega
  have hn2 : ¬ (20 : Int) < (n : Int) := by omega
  have hback := bytes_one
  have HBK := Lib.hid hback
  have hsz : ∀ x ∈ alph n, x.length < 90000 := by
    intro x hx
    simp only [alph, List.mem_map] at hx
    obtain ⟨i, _, rfl⟩ := hx
    simp
  have HSZ := Lib.hid hsz
  have HG := Lib.hid hg
  have hF := full n (by omega)
  have HF := Lib.hid hF
  clear hg hback hsz hF
  go_enter Tryd.func7, Tryd.ntmps7
  go_wp2
  go_loopg [3, 4, 5] n (fun gg s3 s4 s5 wr => ∃ (i : Nat) (ad : Option Addr) (c : Nat) (t : ByteArray), i ≤ n ∧ n - i ≤ gg ∧ s5 = .int .i64 i ∧ s4 = .string t ∧ s3 = .slice ad i c ∧ Aside (t.data.toList = joinOn 44 (alph i)) ∧ Aside (wr.ownsRow w.heap.size 9 1 (.slice ad i c) i (strs (alph i))) ∧ Aside (Below w.heap.size w wr))
  case atStart => exact ⟨0, none, 0, ⟨#[]⟩, by omega, by omega, rfl, rfl, rfl, rfl, World.ownsRow_nil _ _ _ _, acc⟩
  case round =>
    obtain ⟨i, ad, c, t, hi, hgg, rfl, rfl, rfl, HT, HO, HB⟩ := hrel
    have ho := HO.out
    have acc := HB.out
    by_cases hlt : i < n
    · have hltz : (i : Int) < (n : Int) := by omega
      have hts := alph_size i
      have st : t.size < 70000 := by
        have e : t.data.toList.length = t.size := rfl
        rw [HT.out] at e
        omega
      clear hts
      have hy := letter_int (i := i) (by omega)
      obtain ⟨y, hyy⟩ : ∃ y, y = letter i := ⟨_, rfl⟩
      rw [← hyy] at hy
      have hy8 : (y.toNat : Int) < 256 := by have := y.toNat_lt; omega
      have hb1 := HBK.out wr y
      have hcat : (⟨#[y]⟩ : ByteArray) ++ (⟨#[46, 69, 68, 85]⟩ : ByteArray) = ⟨#[y, 46, 69, 68, 85]⟩ := rfl
      have HY := Lib.hid hyy
      clear hyy
      by_cases h0 : i = 0
      · subst h0
        have hb1 : (convert 39 9 (.slice (some ⟨wr.heap.size, 0, none⟩) 1 1)).run Tryd.prog (wr.alloc (.cells #[.int .u8 65] 5)) = .ok (.string ⟨#[65]⟩) (wr.alloc (.cells #[.int .u8 65] 5)) := HBK.out wr 65
        clear hy hcat
        go_wp2_with (at_builtin; refine wpList_append_text _ rfl (.tmp 29) (.tmp 31) rfl w.heap.size ad 0 c (alph 0) rfl ((ho.alloc _).alloc _) (wr.heap.size + 1) [65, 46, 69, 68, 85] rfl (by have h := heap_alloc_new (wr.alloc (.cells #[.int .u8 65] 5)) (.cells #[.string ⟨#[65, 46, 69, 68, 85]⟩] 9); rw [show (wr.alloc (.cells #[.int .u8 65] 5)).heap.size = wr.heap.size + 1 by simp] at h; exact h) (by omega) (Nat.le_trans acc.size (by simp; omega)) ?_; intro g7 cap7 w7 hown7 hb7; replace acc := ((acc.alloc acc.size _).alloc (Nat.le_trans acc.size (by simp)) _).trans hb7)
        go_roundg (n - 1)
        case measure => omega
        case rel => exact ⟨1, some ⟨g7, 0, none⟩, cap7, t ++ ⟨#[65, 46, 69, 68, 85]⟩, by omega, by omega, by go_num, rfl, rfl, by rw [cat_data, HT.out]; rfl, by rw [show alph 1 = alph 0 ++ [[65, 46, 69, 68, 85]] by rfl]; exact hown7, acc⟩
      · have hiz : (0 : Int) < (i : Int) := by omega
        go_wp2_with (at_builtin; refine wpList_append_text _ rfl (.tmp 29) (.tmp 31) rfl w.heap.size ad i c (alph i) rfl ((ho.alloc _).alloc _) (wr.heap.size + 1) [y, 46, 69, 68, 85] rfl (by have h := heap_alloc_new (wr.alloc (.cells #[.int .u8 (y.toNat : Int)] 5)) (.cells #[.string ⟨#[y, 46, 69, 68, 85]⟩] 9); rw [show (wr.alloc (.cells #[.int .u8 (y.toNat : Int)] 5)).heap.size = wr.heap.size + 1 by simp] at h; exact h) (by omega) (Nat.le_trans acc.size (by simp; omega)) ?_; intro g7 cap7 w7 hown7 hb7; replace acc := ((acc.alloc acc.size _).alloc (Nat.le_trans acc.size (by simp)) _).trans hb7)
        go_roundg (n - (i + 1))
        case measure => omega
        case rel =>
          have hs1 : ((t ++ (⟨#[44]⟩ : ByteArray)) ++ (⟨#[y, 46, 69, 68, 85]⟩ : ByteArray)).data.toList = joinOn 44 (alph (i + 1)) := by
            rw [cat_data, cat_data, HT.out, alph_join (by omega), HY.out]
            simp
          have hs2 : alph (i + 1) = alph i ++ [[y, 46, 69, 68, 85]] := by rw [alph_succ, HY.out]; rfl
          exact ⟨i + 1, some ⟨g7, 0, none⟩, cap7, _, by omega, by omega, by go_num, rfl, rfl, hs1, by rw [hs2]; exact hown7, acc⟩
    · have hin : i = n := by omega
      subst hin
      have hts := alph_size i
      have st : t.size < 70000 := by
        have e : t.data.toList.length = t.size := rfl
        rw [HT.out] at e
        omega
      obtain ⟨hf1, hf2⟩ := HF.out
      rw [← HT.out] at hf2
      obtain ⟨T, hT⟩ : ∃ T, T = (compressOf (alph i)).1 := ⟨_, rfl⟩
      clear hts HO HB
      by_cases h8 : 8 < i
      · have h8z : (8 : Int) < (i : Int) := by omega
        rw [if_pos h8] at hf1 hf2
        have E2 := Lib.hid (show compressOf (alph i) = (T, 13) by rw [hT, ← hf1])
        have E1 := Lib.hid (show expandOf t.data.toList (⟨#[67]⟩ : ByteArray).data.toList (⟨#[68]⟩ : ByteArray).data.toList = ([], 13) from hf2)
        clear hf1 hf2 hT
        go_wp2_with (first
          | (go_at_call 21; refine (compress_any _ (HG.out.below acc) _ _ _ (alph i) (At.owns ho) (by omega) HSZ.out).mono ?_; rintro e w5 ⟨rfl, hb⟩; rw [E2.out]; replace ho := own_below ho hb; replace acc := acc.trans (hb.mono acc.size); clear hb)
          | (go_at_call 17; refine (expand_any _ _ _ _ (HG.out.below acc) (by assumption) (by decide) (by decide)).mono ?_; rintro e w6 ⟨ade, ce, rfl, hox, hb⟩; rw [E1.out] at hox ⊢; have HX1 := At.owns hox; have HX2 := (At.owns ho).below hb; clear hox; replace acc := acc.trans (hb.mono acc.size); clear hb)
          | (go_at_call 18; refine (known_any _ (HG.out.below acc)).mono ?_; rintro e w7 ⟨rfl, hb⟩; replace acc := acc.trans (hb.mono acc.size); clear hb))
        go_ret
        exact ⟨rfl, acc⟩
      · have h8z : ¬ (8 : Int) < (i : Int) := by omega
        rw [if_neg h8] at hf1 hf2
        have E2 := Lib.hid (show compressOf (alph i) = (T, 0) by rw [hT, ← hf1])
        have E1 := Lib.hid (show expandOf t.data.toList (⟨#[67]⟩ : ByteArray).data.toList (⟨#[68]⟩ : ByteArray).data.toList = (alph i, 0) from hf2)
        have hal := alph_len i
        have HAL := Lib.hid hal
        clear hf1 hf2 hT hal
        go_wp2_with (first
          | (go_at_call 21; refine (compress_any _ (HG.out.below acc) _ _ _ (alph i) (At.owns ho) (by omega) HSZ.out).mono ?_; rintro e w5 ⟨rfl, hb⟩; rw [E2.out]; replace ho := own_below ho hb; replace acc := acc.trans (hb.mono acc.size); clear hb)
          | (go_at_call 17; refine (expand_any _ _ _ _ (HG.out.below acc) (by assumption) (by decide) (by decide)).mono ?_; rintro e w6 ⟨ade, ce, rfl, hox, hb⟩; rw [E1.out] at hox ⊢; simp only [HAL.out] at hox ⊢; have HX1 := At.owns hox; have HX2 := (At.owns ho).below hb; clear hox; replace acc := acc.trans (hb.mono acc.size); clear hb)
          | (go_at_call 19; refine (texts_any _ _ _ _ _ _ _ (alph i) (alph i) HX1 HX2 (by first | assumption | simp | omega) (by first | assumption | simp | omega)).mono ?_; rintro e w8 ⟨rfl, hb⟩; rw [decide_eq_true rfl]; replace acc := acc.trans (hb.mono acc.size); clear hb)
          | (go_at_call 18; refine (known_any _ (HG.out.below acc)).mono ?_; rintro e w7 ⟨rfl, hb⟩; replace acc := acc.trans (hb.mono acc.size); clear hb))
        go_ret
        exact ⟨rfl, acc⟩

theorem transitFull_walk (n : Int) (_ : (Lit.int .i64 n).wf = true) (w : World) (hg : Glob w) :
    Calls Tryd.prog 7 #[.int .i64 n] w fun e w' => e = .returned (.bool true) ∧ Below w.heap.size w w' := by
  by_cases h : n < 0 ∨ 20 < n
  · exact transitFull_out n w hg h
  · obtain ⟨m, rfl⟩ : ∃ m : Nat, n = m := ⟨n.toNat, by omega⟩
    exact transitFull_in m w hg (by omega)
end Go.Proofs.YtjbdegcmolimoaaDoor
