/-
  DERIVED. GIVEN WITH THE SEED: THE CARDS: each row of YtnifihnlmanpkaaDoorRows.lean that lists a variable, with what it lists TIED to the program's text (the seventh form; the later family's looks); each row that meets fmt, with fmt's text TOLD by the authors' own Lean function (tested against real Go, not proved from fmt's source: count such statements apart). THE CARD IS WHAT COUNTS. Prove the row's statement (the work); the ties are given (YtnifihnlmanpkaaDoorTie.lean); close each card by the builder's one call (the guide's Derived/Test/ToyasCard.lean, 'card_holds'). Laid BY PROGRAM, IN A SANDBOX (cutbox-door.mjs). By AI agents, Wed Nov 11 2026. No macro, syntax, notation, axiom, sorry.
-/
import Derived.Test.YtnifihnlmanpkaaDoorRows
import GoSem.ClaimSeven
namespace Go.Proofs.YtnifihnlmanpkaaDoor
namespace Rows

/-- THE TIED CARD OF 'legatelaw5.NameBack'. -/
def nameBackCard : Claim7 := { stood := { row := nameBackRow, standIns := [], harness := (true, "170f361a20791f986d3b58bc5d4ff6f27ff25d403549592028b13ae65b61b643"), looks := false }, kinds := [], alts := [], laidByText := true, laidKinds := [.data, .pinned], laidTests := true, laidLooks := .later }
def NameBackCardSaid : Prop := Claim7.holds Tryd.pinned (.plain (OpenSpec.ofChange nameBackSpec)) nameBackCard

/-- THE TIED CARD OF 'legatelaw5.NameTops'. -/
def nameTopsCard : Claim7 := { stood := { row := nameTopsRow, standIns := [], harness := (true, "170f361a20791f986d3b58bc5d4ff6f27ff25d403549592028b13ae65b61b643"), looks := false }, kinds := [], alts := [], laidByText := true, laidKinds := [.data, .pinned], laidTests := true, laidLooks := .later }
def NameTopsCardSaid : Prop := Claim7.holds Tryd.pinned (.plain (OpenSpec.ofChange nameTopsSpec)) nameTopsCard

/-- THE TIED CARD OF 'legatelaw5.NameWay'. -/
def nameWayCard : Claim7 := { stood := { row := nameWayRow, standIns := [], harness := (true, "170f361a20791f986d3b58bc5d4ff6f27ff25d403549592028b13ae65b61b643"), looks := false }, kinds := [], alts := [], laidByText := true, laidKinds := [.data, .pinned], laidTests := true, laidLooks := .later }
def NameWayCardSaid : Prop := Claim7.holds Tryd.pinned (.plain (OpenSpec.ofChange nameWaySpec)) nameWayCard

/-- THE TIED CARD OF 'legatelaw5.NameCase'. -/
def nameCaseCard : Claim7 := { stood := { row := nameCaseRow, standIns := [], harness := (true, "170f361a20791f986d3b58bc5d4ff6f27ff25d403549592028b13ae65b61b643"), looks := false }, kinds := [], alts := [], laidByText := true, laidKinds := [.data, .pinned], laidTests := true, laidLooks := .later }
def NameCaseCardSaid : Prop := Claim7.holds Tryd.pinned (.plain (OpenSpec.ofChange nameCaseSpec)) nameCaseCard

/-- THE TIED CARD OF 'legatelaw5.NameUnders'. -/
def nameUndersCard : Claim7 := { stood := { row := nameUndersRow, standIns := [], harness := (true, "170f361a20791f986d3b58bc5d4ff6f27ff25d403549592028b13ae65b61b643"), looks := false }, kinds := [], alts := [], laidByText := true, laidKinds := [.data, .pinned], laidTests := true, laidLooks := .later }
def NameUndersCardSaid : Prop := Claim7.holds Tryd.pinned (.plain (OpenSpec.ofChange nameUndersSpec)) nameUndersCard

/-- THE TIED CARD OF 'legatelaw5.NameLabels'. -/
def nameLabelsCard : Claim7 := { stood := { row := nameLabelsRow, standIns := [], harness := (true, "170f361a20791f986d3b58bc5d4ff6f27ff25d403549592028b13ae65b61b643"), looks := false }, kinds := [], alts := [], laidByText := true, laidKinds := [.data, .pinned], laidTests := true, laidLooks := .later }
def NameLabelsCardSaid : Prop := Claim7.holds Tryd.pinned (.plain (OpenSpec.ofChange nameLabelsSpec)) nameLabelsCard

/-- THE TIED CARD OF 'legatelaw5.NamePrincs'. -/
def namePrincsCard : Claim7 := { stood := { row := namePrincsRow, standIns := [], harness := (true, "170f361a20791f986d3b58bc5d4ff6f27ff25d403549592028b13ae65b61b643"), looks := false }, kinds := [], alts := [], laidByText := true, laidKinds := [.data, .pinned], laidTests := true, laidLooks := .later }
def NamePrincsCardSaid : Prop := Claim7.holds Tryd.pinned (.plain (OpenSpec.ofChange namePrincsSpec)) namePrincsCard

/-- THE TIED CARD OF 'legatelaw5.NameUp'. -/
def nameUpCard : Claim7 := { stood := { row := nameUpRow, standIns := [], harness := (true, "170f361a20791f986d3b58bc5d4ff6f27ff25d403549592028b13ae65b61b643"), looks := false }, kinds := [], alts := [], laidByText := true, laidKinds := [.data, .pinned], laidTests := true, laidLooks := .later }
def NameUpCardSaid : Prop := Claim7.holds Tryd.pinned (.plain (OpenSpec.ofChange nameUpSpec)) nameUpCard

/-- THE TIED CARD OF 'legatelaw5.NameTells'. -/
def nameTellsCard : Claim7 := { stood := { row := nameTellsRow, standIns := [], harness := (true, "170f361a20791f986d3b58bc5d4ff6f27ff25d403549592028b13ae65b61b643"), looks := false }, kinds := [], alts := [], laidByText := true, laidKinds := [.data, .pinned], laidTests := true, laidLooks := .later }
def NameTellsCardSaid : Prop := Claim7.holds Tryd.pinned (.plain (OpenSpec.ofChange nameTellsSpec)) nameTellsCard

/-- THE SECOND FORM's CARD OF 'legatelaw5.NameBack'. -/
def nameBackUptoCard : Claim7 := { stood := { row := nameBackUptoRow, standIns := [], harness := (true, "170f361a20791f986d3b58bc5d4ff6f27ff25d403549592028b13ae65b61b643"), looks := false }, kinds := [], alts := [], laidByText := true, laidKinds := [.data, .pinned], laidTests := true, laidLooks := .later }
def NameBackUptoCardSaid : Prop := Claim7.holds Tryd.pinned (.plain (OpenSpec.upto nameBackSpec)) nameBackUptoCard

/-- THE SECOND FORM's CARD OF 'legatelaw5.NameTops'. -/
def nameTopsUptoCard : Claim7 := { stood := { row := nameTopsUptoRow, standIns := [], harness := (true, "170f361a20791f986d3b58bc5d4ff6f27ff25d403549592028b13ae65b61b643"), looks := false }, kinds := [], alts := [], laidByText := true, laidKinds := [.data, .pinned], laidTests := true, laidLooks := .later }
def NameTopsUptoCardSaid : Prop := Claim7.holds Tryd.pinned (.plain (OpenSpec.upto nameTopsSpec)) nameTopsUptoCard

/-- THE SECOND FORM's CARD OF 'legatelaw5.NameWay'. -/
def nameWayUptoCard : Claim7 := { stood := { row := nameWayUptoRow, standIns := [], harness := (true, "170f361a20791f986d3b58bc5d4ff6f27ff25d403549592028b13ae65b61b643"), looks := false }, kinds := [], alts := [], laidByText := true, laidKinds := [.data, .pinned], laidTests := true, laidLooks := .later }
def NameWayUptoCardSaid : Prop := Claim7.holds Tryd.pinned (.plain (OpenSpec.upto nameWaySpec)) nameWayUptoCard

/-- THE SECOND FORM's CARD OF 'legatelaw5.NameCase'. -/
def nameCaseUptoCard : Claim7 := { stood := { row := nameCaseUptoRow, standIns := [], harness := (true, "170f361a20791f986d3b58bc5d4ff6f27ff25d403549592028b13ae65b61b643"), looks := false }, kinds := [], alts := [], laidByText := true, laidKinds := [.data, .pinned], laidTests := true, laidLooks := .later }
def NameCaseUptoCardSaid : Prop := Claim7.holds Tryd.pinned (.plain (OpenSpec.upto nameCaseSpec)) nameCaseUptoCard

/-- THE SECOND FORM's CARD OF 'legatelaw5.NameUnders'. -/
def nameUndersUptoCard : Claim7 := { stood := { row := nameUndersUptoRow, standIns := [], harness := (true, "170f361a20791f986d3b58bc5d4ff6f27ff25d403549592028b13ae65b61b643"), looks := false }, kinds := [], alts := [], laidByText := true, laidKinds := [.data, .pinned], laidTests := true, laidLooks := .later }
def NameUndersUptoCardSaid : Prop := Claim7.holds Tryd.pinned (.plain (OpenSpec.upto nameUndersSpec)) nameUndersUptoCard

/-- THE SECOND FORM's CARD OF 'legatelaw5.NameLabels'. -/
def nameLabelsUptoCard : Claim7 := { stood := { row := nameLabelsUptoRow, standIns := [], harness := (true, "170f361a20791f986d3b58bc5d4ff6f27ff25d403549592028b13ae65b61b643"), looks := false }, kinds := [], alts := [], laidByText := true, laidKinds := [.data, .pinned], laidTests := true, laidLooks := .later }
def NameLabelsUptoCardSaid : Prop := Claim7.holds Tryd.pinned (.plain (OpenSpec.upto nameLabelsSpec)) nameLabelsUptoCard

/-- THE SECOND FORM's CARD OF 'legatelaw5.NamePrincs'. -/
def namePrincsUptoCard : Claim7 := { stood := { row := namePrincsUptoRow, standIns := [], harness := (true, "170f361a20791f986d3b58bc5d4ff6f27ff25d403549592028b13ae65b61b643"), looks := false }, kinds := [], alts := [], laidByText := true, laidKinds := [.data, .pinned], laidTests := true, laidLooks := .later }
def NamePrincsUptoCardSaid : Prop := Claim7.holds Tryd.pinned (.plain (OpenSpec.upto namePrincsSpec)) namePrincsUptoCard

/-- THE SECOND FORM's CARD OF 'legatelaw5.NameUp'. -/
def nameUpUptoCard : Claim7 := { stood := { row := nameUpUptoRow, standIns := [], harness := (true, "170f361a20791f986d3b58bc5d4ff6f27ff25d403549592028b13ae65b61b643"), looks := false }, kinds := [], alts := [], laidByText := true, laidKinds := [.data, .pinned], laidTests := true, laidLooks := .later }
def NameUpUptoCardSaid : Prop := Claim7.holds Tryd.pinned (.plain (OpenSpec.upto nameUpSpec)) nameUpUptoCard

/-- THE SECOND FORM's CARD OF 'legatelaw5.NameTells'. -/
def nameTellsUptoCard : Claim7 := { stood := { row := nameTellsUptoRow, standIns := [], harness := (true, "170f361a20791f986d3b58bc5d4ff6f27ff25d403549592028b13ae65b61b643"), looks := false }, kinds := [], alts := [], laidByText := true, laidKinds := [.data, .pinned], laidTests := true, laidLooks := .later }
def NameTellsUptoCardSaid : Prop := Claim7.holds Tryd.pinned (.plain (OpenSpec.upto nameTellsSpec)) nameTellsUptoCard
end Rows
end Go.Proofs.YtnifihnlmanpkaaDoor
