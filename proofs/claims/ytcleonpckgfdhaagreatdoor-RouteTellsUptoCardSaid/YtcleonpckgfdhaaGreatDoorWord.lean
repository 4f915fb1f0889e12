/-
  name.isWord.
-/
import Derived.Test.YtcleonpckgfdhaaGreatDoorLib
set_option linter.unusedVariables false
set_option linter.unusedSimpArgs false
namespace Go.Proofs.YtcleonpckgfdhaaGreatDoor
open Go Go.RowKit Go.Lib Go.Shelf

theorem toList_data (s : ByteArray) : s.toList = s.data.toList := ByteArray.toList_eq s

theorem word_trim (s cs : ByteArray) (p : UInt8 → Bool) (hp : ∀ b, cs.data.toList.contains b = p b) (h1 : ¬ s.toList = []) (h2 : (s.size : Int) ≤ 8) : (!s.toList.isEmpty && (trimS s.data.toList cs.data.toList).isEmpty) = word p s.data.toList := by
  rw [toList_data] at *
  have e : s.data.toList.length = s.size := rfl
  have hne : 1 ≤ s.data.toList.length := by
    rcases Nat.eq_zero_or_pos s.data.toList.length with h | h
    · exact absurd (List.length_eq_zero_iff.1 h) h1
    · exact h
  have h3 : s.data.toList.isEmpty = false := by simpa using h1
  have h4 : (trimS s.data.toList cs.data.toList).isEmpty = s.data.toList.all p := by
    rw [Bool.eq_iff_iff, List.isEmpty_iff, trimS_nil]
    have : (fun b => cs.data.toList.contains b) = p := funext hp
    rw [this]
  rw [h3, h4]
  simp only [word]
  rw [decide_eq_true (by omega), decide_eq_true (by omega)]
  simp

theorem word_long (s : ByteArray) (p : UInt8 → Bool) (h : ¬ (s.size : Int) ≤ 8) : word p s.data.toList = false := by
  have e : s.data.toList.length = s.size := rfl
  simp only [word]
  rw [decide_eq_false (p := s.data.toList.length ≤ 8) (by omega)]
  simp
theorem word_empty (s : ByteArray) (p : UInt8 → Bool) (h : s.toList = []) : word p s.data.toList = false := by
  rw [toList_data] at h
  simp [word, h]

theorem isWord_any (w : World) (s cs : ByteArray) (p : UInt8 → Bool) (hp : ∀ b, cs.data.toList.contains b = p b) (hcs : cs.size < 4294967281) (ha : cs.data.toList.all (fun b => decide (b.toNat < 128)) = true) :
    Calls Tryz.prog 58 #[.string s, .string cs] w fun e w' => e = .returned (.bool (word p s.data.toList)) ∧ Below w.heap.size w w' := by
  by_cases h0 : s.toList = []
  · have hr := word_empty s p h0
    go_enter Tryz.func58, Tryz.ntmps58
    go_wp2
    go_ret
    exact ⟨by first | rfl | (rw [hr]; rfl), Below.refl _ _⟩
  · by_cases h8 : (s.size : Int) ≤ 8
    · have hr := word_trim s cs p hp h0 h8
      go_enter Tryz.func58, Tryz.ntmps58
      go_wp2_with (go_at_call 67; refine (trim_set s cs _ (by omega) hcs ha).mono ?_; rintro e w' ⟨rfl, hb⟩)
      go_ret
      exact ⟨by first | rfl | (rw [hr]; rfl), hb⟩
    · have hr := word_long s p h8
      go_enter Tryz.func58, Tryz.ntmps58
      go_wp2
      go_ret
      exact ⟨by first | rfl | (rw [hr]; rfl), Below.refl _ _⟩

theorem byte_all {p : UInt8 → Prop} (h : ∀ n : Fin 256, p (UInt8.ofNat n.val)) (b : UInt8) : p b := by
  have h1 := h ⟨b.toNat, b.toNat_lt⟩
  have e : UInt8.ofNat b.toNat = b := UInt8.ofNat_toNat
  simp only [e] at h1
  exact h1
theorem up_set : ∀ b : UInt8, (⟨#[65, 66, 67, 68, 69, 70, 71, 72, 73, 74, 75, 76, 77, 78, 79, 80, 81, 82, 83, 84, 85, 86, 87, 88, 89, 90]⟩ : ByteArray).data.toList.contains b = upB b := byte_all (by decide +kernel)

/-- name.labels' predicate: is it no label? -/
theorem bad_any (w : World) (s : ByteArray) : Calls Tryz.prog 57 #[.string s] w fun e w' => e = .returned (.bool (!word upB s.data.toList)) ∧ Below w.heap.size w w' := by
  have hup := up_set
  have hc := fun w => isWord_any w s ⟨#[65, 66, 67, 68, 69, 70, 71, 72, 73, 74, 75, 76, 77, 78, 79, 80, 81, 82, 83, 84, 85, 86, 87, 88, 89, 90]⟩ upB hup (by decide) (by decide)
  clear hup
  go_enter Tryz.func57, Tryz.ntmps57
  go_wp2_with (go_at_call 58; refine (hc _).mono ?_; rintro e w' ⟨rfl, hb⟩)
  go_ret
  exact ⟨rfl, hb⟩
end Go.Proofs.YtcleonpckgfdhaaGreatDoor
