/-
  strings.Trim at this dump; rows of texts.
-/
import Derived.Test.YtcleonpckgfdhaaGreatDoorText
import Derived.Test.YtcleonpckgfdhaaGreatDoorShelf
import Derived.Test.YtcleonpckgfdhaaGreatDoorProg
import Derived.Shelf.Strings.SlTrimAscii
import Derived.Lib.Hide
import Derived.Below
import Derived.WalkSmall
import Derived.KernelRfl
import Derived.ProofKit
import Derived.WalkKit
import Derived.BigQuiet
import Derived.Deep.LoopGhost
import Derived.Deep.Cut
import Derived.Deep.RegionHeld3
import Derived.Deep.AppendLies
import Derived.Deep.QuietTactic
import Derived.StillTailTactics
set_option linter.unusedVariables false
set_option linter.unusedSimpArgs false
namespace Go.Proofs.YtcleonpckgfdhaaGreatDoor
open Go Go.RowKit Go.Lib Go.Shelf

def strv (x : Str) : Value := .string ⟨x.toArray⟩
def strs (l : List Str) : List Value := l.map strv
theorem strs_length (l : List Str) : (strs l).length = l.length := by simp [strs]
theorem strs_one (l : List Str) : ∀ u ∈ strs l, u.oneCell' = true := by
  intro u hu
  simp only [strs, List.mem_map] at hu
  obtain ⟨x, _, rfl⟩ := hu
  rfl

theorem trim_set (s cs : ByteArray) (w : World) (hs : s.size ≤ 9223372036854775807) (hcs : cs.size < 4294967281) (ha : cs.data.toList.all (fun b => decide (b.toNat < 128)) = true) :
    Calls Tryz.prog 67 #[.string s, .string cs] w fun e w' => e = .returned (.string ⟨(Lib.trimS s.data.toList cs.data.toList).toArray⟩) ∧ Below w.heap.size w w' :=
  Any.strings_Trim_laid Tryz.lays160 (by kernel_rfl) s cs w hs hcs (ascii_of_all ha)

theorem str_empty (s : ByteArray) : (s.toList == []) = decide (s.size = 0) := by
  rw [ByteArray.toList_eq]
  obtain ⟨⟨l⟩⟩ := s
  cases l <;> simp [ByteArray.size]
end Go.Proofs.YtcleonpckgfdhaaGreatDoor
