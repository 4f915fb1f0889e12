/-
  DERIVED. GIVEN WITH THE SEED: THE CARDS: each row of YtjbdegcmolimoaaDoorRows.lean that lists a variable, with what it lists TIED to the program's text (the seventh form; the later family's looks); each row that meets fmt, with fmt's text TOLD by the authors' own Lean function (tested against real Go, not proved from fmt's source: count such statements apart). THE CARD IS WHAT COUNTS. Prove the row's statement (the work); the ties are given (YtjbdegcmolimoaaDoorTie.lean); close each card by the builder's one call (the guide's Derived/Test/ToyasCard.lean, 'card_holds'). Laid BY PROGRAM, IN A SANDBOX (cutbox-door.mjs). By AI agents, Wed Nov 11 2026. No macro, syntax, notation, axiom, sorry.
-/
import Derived.Test.YtjbdegcmolimoaaDoorRows
import GoSem.ClaimSeven
namespace Go.Proofs.YtjbdegcmolimoaaDoor
namespace Rows

/-- THE TIED CARD OF 'legatelaw6.TransitNull'. -/
def transitNullCard : Claim7 := { stood := { row := transitNullRow, standIns := [], harness := (true, "2241ffe8a00726e40eb98ab2fc014e6972150a5779a25bcf3c6bf31cbf4ca878"), looks := false }, kinds := [], alts := [], laidByText := true, laidKinds := [.data, .pinned], laidTests := true, laidLooks := .later }
def TransitNullCardSaid : Prop := Claim7.holds Tryd.pinned (.plain (OpenSpec.ofChange transitNullSpec)) transitNullCard

/-- THE TIED CARD OF 'legatelaw6.TransitSlashes'. -/
def transitSlashesCard : Claim7 := { stood := { row := transitSlashesRow, standIns := [], harness := (true, "2241ffe8a00726e40eb98ab2fc014e6972150a5779a25bcf3c6bf31cbf4ca878"), looks := false }, kinds := [], alts := [], laidByText := true, laidKinds := [.data, .pinned], laidTests := true, laidLooks := .later }
def TransitSlashesCardSaid : Prop := Claim7.holds Tryd.pinned (.plain (OpenSpec.ofChange transitSlashesSpec)) transitSlashesCard

/-- THE TIED CARD OF 'legatelaw6.TransitTwice'. -/
def transitTwiceCard : Claim7 := { stood := { row := transitTwiceRow, standIns := [], harness := (true, "2241ffe8a00726e40eb98ab2fc014e6972150a5779a25bcf3c6bf31cbf4ca878"), looks := false }, kinds := [], alts := [], laidByText := true, laidKinds := [.data, .pinned], laidTests := true, laidLooks := .later }
def TransitTwiceCardSaid : Prop := Claim7.holds Tryd.pinned (.plain (OpenSpec.ofChange transitTwiceSpec)) transitTwiceCard

/-- THE TIED CARD OF 'legatelaw6.TransitBack'. -/
def transitBackCard : Claim7 := { stood := { row := transitBackRow, standIns := [], harness := (true, "2241ffe8a00726e40eb98ab2fc014e6972150a5779a25bcf3c6bf31cbf4ca878"), looks := false }, kinds := [], alts := [], laidByText := true, laidKinds := [.data, .pinned], laidTests := true, laidLooks := .later }
def TransitBackCardSaid : Prop := Claim7.holds Tryd.pinned (.plain (OpenSpec.ofChange transitBackSpec)) transitBackCard

/-- THE TIED CARD OF 'legatelaw6.TransitFull'. -/
def transitFullCard : Claim7 := { stood := { row := transitFullRow, standIns := [], harness := (true, "2241ffe8a00726e40eb98ab2fc014e6972150a5779a25bcf3c6bf31cbf4ca878"), looks := false }, kinds := [], alts := [], laidByText := true, laidKinds := [.data, .pinned], laidTests := true, laidLooks := .later }
def TransitFullCardSaid : Prop := Claim7.holds Tryd.pinned (.plain (OpenSpec.ofChange transitFullSpec)) transitFullCard

/-- THE TIED CARD OF 'legatelaw6.TransitDots'. -/
def transitDotsCard : Claim7 := { stood := { row := transitDotsRow, standIns := [], harness := (true, "2241ffe8a00726e40eb98ab2fc014e6972150a5779a25bcf3c6bf31cbf4ca878"), looks := false }, kinds := [], alts := [], laidByText := true, laidKinds := [.data, .pinned], laidTests := true, laidLooks := .later }
def TransitDotsCardSaid : Prop := Claim7.holds Tryd.pinned (.plain (OpenSpec.ofChange transitDotsSpec)) transitDotsCard

/-- THE TIED CARD OF 'legatelaw6.TransitJunk'. -/
def transitJunkCard : Claim7 := { stood := { row := transitJunkRow, standIns := [], harness := (true, "2241ffe8a00726e40eb98ab2fc014e6972150a5779a25bcf3c6bf31cbf4ca878"), looks := false }, kinds := [], alts := [], laidByText := true, laidKinds := [.data, .pinned], laidTests := true, laidLooks := .later }
def TransitJunkCardSaid : Prop := Claim7.holds Tryd.pinned (.plain (OpenSpec.ofChange transitJunkSpec)) transitJunkCard

/-- THE TIED CARD OF 'legatelaw6.TransitTells'. -/
def transitTellsCard : Claim7 := { stood := { row := transitTellsRow, standIns := [], harness := (true, "2241ffe8a00726e40eb98ab2fc014e6972150a5779a25bcf3c6bf31cbf4ca878"), looks := false }, kinds := [], alts := [], laidByText := true, laidKinds := [.data, .pinned], laidTests := true, laidLooks := .later }
def TransitTellsCardSaid : Prop := Claim7.holds Tryd.pinned (.plain (OpenSpec.ofChange transitTellsSpec)) transitTellsCard

/-- THE TIED CARD OF 'legatelaw6.TransitInserts'. -/
def transitInsertsCard : Claim7 := { stood := { row := transitInsertsRow, standIns := [], harness := (true, "2241ffe8a00726e40eb98ab2fc014e6972150a5779a25bcf3c6bf31cbf4ca878"), looks := false }, kinds := [], alts := [], laidByText := true, laidKinds := [.data, .pinned], laidTests := true, laidLooks := .later }
def TransitInsertsCardSaid : Prop := Claim7.holds Tryd.pinned (.plain (OpenSpec.ofChange transitInsertsSpec)) transitInsertsCard

/-- THE TIED CARD OF 'legatelaw6.TransitEnds'. -/
def transitEndsCard : Claim7 := { stood := { row := transitEndsRow, standIns := [], harness := (true, "2241ffe8a00726e40eb98ab2fc014e6972150a5779a25bcf3c6bf31cbf4ca878"), looks := false }, kinds := [], alts := [], laidByText := true, laidKinds := [.data, .pinned], laidTests := true, laidLooks := .later }
def TransitEndsCardSaid : Prop := Claim7.holds Tryd.pinned (.plain (OpenSpec.ofChange transitEndsSpec)) transitEndsCard

/-- THE SECOND FORM's CARD OF 'legatelaw6.TransitNull'. -/
def transitNullUptoCard : Claim7 := { stood := { row := transitNullUptoRow, standIns := [], harness := (true, "2241ffe8a00726e40eb98ab2fc014e6972150a5779a25bcf3c6bf31cbf4ca878"), looks := false }, kinds := [], alts := [], laidByText := true, laidKinds := [.data, .pinned], laidTests := true, laidLooks := .later }
def TransitNullUptoCardSaid : Prop := Claim7.holds Tryd.pinned (.plain (OpenSpec.upto transitNullSpec)) transitNullUptoCard

/-- THE SECOND FORM's CARD OF 'legatelaw6.TransitSlashes'. -/
def transitSlashesUptoCard : Claim7 := { stood := { row := transitSlashesUptoRow, standIns := [], harness := (true, "2241ffe8a00726e40eb98ab2fc014e6972150a5779a25bcf3c6bf31cbf4ca878"), looks := false }, kinds := [], alts := [], laidByText := true, laidKinds := [.data, .pinned], laidTests := true, laidLooks := .later }
def TransitSlashesUptoCardSaid : Prop := Claim7.holds Tryd.pinned (.plain (OpenSpec.upto transitSlashesSpec)) transitSlashesUptoCard

/-- THE SECOND FORM's CARD OF 'legatelaw6.TransitTwice'. -/
def transitTwiceUptoCard : Claim7 := { stood := { row := transitTwiceUptoRow, standIns := [], harness := (true, "2241ffe8a00726e40eb98ab2fc014e6972150a5779a25bcf3c6bf31cbf4ca878"), looks := false }, kinds := [], alts := [], laidByText := true, laidKinds := [.data, .pinned], laidTests := true, laidLooks := .later }
def TransitTwiceUptoCardSaid : Prop := Claim7.holds Tryd.pinned (.plain (OpenSpec.upto transitTwiceSpec)) transitTwiceUptoCard

/-- THE SECOND FORM's CARD OF 'legatelaw6.TransitBack'. -/
def transitBackUptoCard : Claim7 := { stood := { row := transitBackUptoRow, standIns := [], harness := (true, "2241ffe8a00726e40eb98ab2fc014e6972150a5779a25bcf3c6bf31cbf4ca878"), looks := false }, kinds := [], alts := [], laidByText := true, laidKinds := [.data, .pinned], laidTests := true, laidLooks := .later }
def TransitBackUptoCardSaid : Prop := Claim7.holds Tryd.pinned (.plain (OpenSpec.upto transitBackSpec)) transitBackUptoCard

/-- THE SECOND FORM's CARD OF 'legatelaw6.TransitFull'. -/
def transitFullUptoCard : Claim7 := { stood := { row := transitFullUptoRow, standIns := [], harness := (true, "2241ffe8a00726e40eb98ab2fc014e6972150a5779a25bcf3c6bf31cbf4ca878"), looks := false }, kinds := [], alts := [], laidByText := true, laidKinds := [.data, .pinned], laidTests := true, laidLooks := .later }
def TransitFullUptoCardSaid : Prop := Claim7.holds Tryd.pinned (.plain (OpenSpec.upto transitFullSpec)) transitFullUptoCard

/-- THE SECOND FORM's CARD OF 'legatelaw6.TransitDots'. -/
def transitDotsUptoCard : Claim7 := { stood := { row := transitDotsUptoRow, standIns := [], harness := (true, "2241ffe8a00726e40eb98ab2fc014e6972150a5779a25bcf3c6bf31cbf4ca878"), looks := false }, kinds := [], alts := [], laidByText := true, laidKinds := [.data, .pinned], laidTests := true, laidLooks := .later }
def TransitDotsUptoCardSaid : Prop := Claim7.holds Tryd.pinned (.plain (OpenSpec.upto transitDotsSpec)) transitDotsUptoCard

/-- THE SECOND FORM's CARD OF 'legatelaw6.TransitJunk'. -/
def transitJunkUptoCard : Claim7 := { stood := { row := transitJunkUptoRow, standIns := [], harness := (true, "2241ffe8a00726e40eb98ab2fc014e6972150a5779a25bcf3c6bf31cbf4ca878"), looks := false }, kinds := [], alts := [], laidByText := true, laidKinds := [.data, .pinned], laidTests := true, laidLooks := .later }
def TransitJunkUptoCardSaid : Prop := Claim7.holds Tryd.pinned (.plain (OpenSpec.upto transitJunkSpec)) transitJunkUptoCard

/-- THE SECOND FORM's CARD OF 'legatelaw6.TransitTells'. -/
def transitTellsUptoCard : Claim7 := { stood := { row := transitTellsUptoRow, standIns := [], harness := (true, "2241ffe8a00726e40eb98ab2fc014e6972150a5779a25bcf3c6bf31cbf4ca878"), looks := false }, kinds := [], alts := [], laidByText := true, laidKinds := [.data, .pinned], laidTests := true, laidLooks := .later }
def TransitTellsUptoCardSaid : Prop := Claim7.holds Tryd.pinned (.plain (OpenSpec.upto transitTellsSpec)) transitTellsUptoCard

/-- THE SECOND FORM's CARD OF 'legatelaw6.TransitInserts'. -/
def transitInsertsUptoCard : Claim7 := { stood := { row := transitInsertsUptoRow, standIns := [], harness := (true, "2241ffe8a00726e40eb98ab2fc014e6972150a5779a25bcf3c6bf31cbf4ca878"), looks := false }, kinds := [], alts := [], laidByText := true, laidKinds := [.data, .pinned], laidTests := true, laidLooks := .later }
def TransitInsertsUptoCardSaid : Prop := Claim7.holds Tryd.pinned (.plain (OpenSpec.upto transitInsertsSpec)) transitInsertsUptoCard

/-- THE SECOND FORM's CARD OF 'legatelaw6.TransitEnds'. -/
def transitEndsUptoCard : Claim7 := { stood := { row := transitEndsUptoRow, standIns := [], harness := (true, "2241ffe8a00726e40eb98ab2fc014e6972150a5779a25bcf3c6bf31cbf4ca878"), looks := false }, kinds := [], alts := [], laidByText := true, laidKinds := [.data, .pinned], laidTests := true, laidLooks := .later }
def TransitEndsUptoCardSaid : Prop := Claim7.holds Tryd.pinned (.plain (OpenSpec.upto transitEndsSpec)) transitEndsUptoCard
end Rows
end Go.Proofs.YtjbdegcmolimoaaDoor
