/-
  DERIVED. GIVEN WITH THE SEED: THE CARDS: each row of YtcleonpckgfdhaaGreatDoorRows.lean that lists a variable, with what it lists TIED to the program's text (the seventh form; the later family's looks); each row that meets fmt, with fmt's text TOLD by the authors' own Lean function (tested against real Go, not proved from fmt's source: count such statements apart). THE CARD IS WHAT COUNTS. Prove the row's statement (the work); the ties are given (YtcleonpckgfdhaaGreatDoorTie.lean); close each card by the builder's one call (the guide's Derived/Test/ToyasCard.lean, 'card_holds'). Laid BY PROGRAM, IN A SANDBOX (cutbox-door.mjs). By AI agents, Wed Nov 11 2026. No macro, syntax, notation, axiom, sorry.
-/
import Derived.Test.YtcleonpckgfdhaaGreatDoorRows
import GoSem.ClaimSeven
namespace Go.Proofs.YtcleonpckgfdhaaGreatDoor
namespace Rows

/-- THE TIED CARD OF 'legatelaw7.RouteTells'. -/
def routeTellsCard : Claim7 := { stood := { row := routeTellsRow, standIns := [], harness := (true, "0d8eec243ad741ac16ed6997cf5e485684957ae4fe28317cd8ca8d93e86f4cbd"), looks := false }, kinds := [], alts := [], laidByText := true, laidKinds := [.data, .pinned], laidTests := true, laidLooks := .later }
def RouteTellsCardSaid : Prop := Claim7.holds Tryz.pinned (.plain (OpenSpec.ofChange routeTellsSpec)) routeTellsCard

/-- THE SECOND FORM's CARD OF 'legatelaw7.RouteTells'. -/
def routeTellsUptoCard : Claim7 := { stood := { row := routeTellsUptoRow, standIns := [], harness := (true, "0d8eec243ad741ac16ed6997cf5e485684957ae4fe28317cd8ca8d93e86f4cbd"), looks := false }, kinds := [], alts := [], laidByText := true, laidKinds := [.data, .pinned], laidTests := true, laidLooks := .later }
def RouteTellsUptoCardSaid : Prop := Claim7.holds Tryz.pinned (.plain (OpenSpec.upto routeTellsSpec)) routeTellsUptoCard
end Rows
end Go.Proofs.YtcleonpckgfdhaaGreatDoor
