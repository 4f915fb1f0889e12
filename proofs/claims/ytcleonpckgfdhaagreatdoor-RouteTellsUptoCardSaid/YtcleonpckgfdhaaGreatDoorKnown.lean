/-
  legatelaw5.known.
-/
import Derived.Test.YtcleonpckgfdhaaGreatDoorBetw
set_option linter.unusedVariables false
set_option linter.unusedSimpArgs false
namespace Go.Proofs.YtcleonpckgfdhaaGreatDoor
open Go Go.RowKit Go.Lib Go.Shelf

theorem bet_known : betOf [88, 46, 65, 46, 69, 68, 85] [89, 46, 66, 46, 69, 68, 85] = [[65, 46, 69, 68, 85], [69, 68, 85], [66, 46, 69, 68, 85]] := by decide +kernel
theorem kind_known : kindOf [47, 67, 79, 77, 47, 72, 80] = 2 := by decide +kernel

theorem bet_known_any (w : World) (hg : Glob w) : Calls Tryz.prog 27 #[.string ⟨#[88, 46, 65, 46, 69, 68, 85]⟩, .string ⟨#[89, 46, 66, 46, 69, 68, 85]⟩] w fun e w' =>
    ∃ b c, e = .returned (.slice (some ⟨b, 0, none⟩) 3 c) ∧ w'.cell? ⟨b, 0, none⟩ = some (.string ⟨#[65, 46, 69, 68, 85]⟩) ∧ w'.cell? ⟨b, 1, none⟩ = some (.string ⟨#[69, 68, 85]⟩) ∧ w'.cell? ⟨b, 2, none⟩ = some (.string ⟨#[66, 46, 69, 68, 85]⟩) ∧ Below w.heap.size w w' := by
  refine (between_any w ⟨#[88, 46, 65, 46, 69, 68, 85]⟩ ⟨#[89, 46, 66, 46, 69, 68, 85]⟩ hg (by decide) (by decide)).mono ?_
  rintro e w' ⟨ad, c, rfl, ho, hb⟩
  have e1 : betOf (⟨#[88, 46, 65, 46, 69, 68, 85]⟩ : ByteArray).data.toList (⟨#[89, 46, 66, 46, 69, 68, 85]⟩ : ByteArray).data.toList = [[65, 46, 69, 68, 85], [69, 68, 85], [66, 46, 69, 68, 85]] := bet_known
  rw [e1] at ho ⊢
  obtain ⟨g, cap, e2, hgb, hlt⟩ := World.ownsRow.form ho (by decide)
  simp only [Value.slice.injEq, true_and] at e2
  obtain ⟨rfl, rfl⟩ := e2
  exact ⟨g, c, rfl, ho.cellAt 0 (by decide), ho.cellAt 1 (by decide), ho.cellAt 2 (by decide), hb⟩

end Go.Proofs.YtcleonpckgfdhaaGreatDoor
