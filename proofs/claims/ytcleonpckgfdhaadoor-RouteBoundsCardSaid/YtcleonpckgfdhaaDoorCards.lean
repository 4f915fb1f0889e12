/-
  DERIVED. GIVEN WITH THE SEED: THE CARDS: each row of YtcleonpckgfdhaaDoorRows.lean that lists a variable, with what it lists TIED to the program's text (the seventh form; the later family's looks); each row that meets fmt, with fmt's text TOLD by the authors' own Lean function (tested against real Go, not proved from fmt's source: count such statements apart). THE CARD IS WHAT COUNTS. Prove the row's statement (the work); the ties are given (YtcleonpckgfdhaaDoorTie.lean); close each card by the builder's one call (the guide's Derived/Test/ToyasCard.lean, 'card_holds'). Laid BY PROGRAM, IN A SANDBOX (cutbox-door.mjs). By AI agents, Wed Nov 11 2026. No macro, syntax, notation, axiom, sorry.
-/
import Derived.Test.YtcleonpckgfdhaaDoorRows
import GoSem.ClaimSeven
namespace Go.Proofs.YtcleonpckgfdhaaDoor
namespace Rows

/-- THE TIED CARD OF 'legatelaw7.RouteMay'. -/
def routeMayCard : Claim7 := { stood := { row := routeMayRow, standIns := [], harness := (true, "c6cf875bc2bfb5b7577f740641d16d1a93aa0cd2da69d40e5af02aa1da810abd"), looks := false }, kinds := [], alts := [], laidByText := true, laidKinds := [.data, .pinned], laidTests := true, laidLooks := .later }
def RouteMayCardSaid : Prop := Claim7.holds Tryd.pinned (.plain (OpenSpec.ofChange routeMaySpec)) routeMayCard

/-- THE TIED CARD OF 'legatelaw7.RouteWalks'. -/
def routeWalksCard : Claim7 := { stood := { row := routeWalksRow, standIns := [], harness := (true, "c6cf875bc2bfb5b7577f740641d16d1a93aa0cd2da69d40e5af02aa1da810abd"), looks := false }, kinds := [], alts := [], laidByText := true, laidKinds := [.data, .pinned], laidTests := true, laidLooks := .later }
def RouteWalksCardSaid : Prop := Claim7.holds Tryd.pinned (.plain (OpenSpec.ofChange routeWalksSpec)) routeWalksCard

/-- THE TIED CARD OF 'legatelaw7.RouteTrees'. -/
def routeTreesCard : Claim7 := { stood := { row := routeTreesRow, standIns := [], harness := (true, "c6cf875bc2bfb5b7577f740641d16d1a93aa0cd2da69d40e5af02aa1da810abd"), looks := false }, kinds := [], alts := [], laidByText := true, laidKinds := [.data, .pinned], laidTests := true, laidLooks := .later }
def RouteTreesCardSaid : Prop := Claim7.holds Tryd.pinned (.plain (OpenSpec.ofChange routeTreesSpec)) routeTreesCard

/-- THE TIED CARD OF 'legatelaw7.RouteDirect'. -/
def routeDirectCard : Claim7 := { stood := { row := routeDirectRow, standIns := [], harness := (true, "c6cf875bc2bfb5b7577f740641d16d1a93aa0cd2da69d40e5af02aa1da810abd"), looks := false }, kinds := [], alts := [], laidByText := true, laidKinds := [.data, .pinned], laidTests := true, laidLooks := .later }
def RouteDirectCardSaid : Prop := Claim7.holds Tryd.pinned (.plain (OpenSpec.ofChange routeDirectSpec)) routeDirectCard

/-- THE TIED CARD OF 'legatelaw7.RouteNone'. -/
def routeNoneCard : Claim7 := { stood := { row := routeNoneRow, standIns := [], harness := (true, "c6cf875bc2bfb5b7577f740641d16d1a93aa0cd2da69d40e5af02aa1da810abd"), looks := false }, kinds := [], alts := [], laidByText := true, laidKinds := [.data, .pinned], laidTests := true, laidLooks := .later }
def RouteNoneCardSaid : Prop := Claim7.holds Tryd.pinned (.plain (OpenSpec.ofChange routeNoneSpec)) routeNoneCard

/-- THE TIED CARD OF 'legatelaw7.RouteBounds'. -/
def routeBoundsCard : Claim7 := { stood := { row := routeBoundsRow, standIns := [], harness := (true, "c6cf875bc2bfb5b7577f740641d16d1a93aa0cd2da69d40e5af02aa1da810abd"), looks := false }, kinds := [], alts := [], laidByText := true, laidKinds := [.data, .pinned], laidTests := true, laidLooks := .later }
def RouteBoundsCardSaid : Prop := Claim7.holds Tryd.pinned (.plain (OpenSpec.ofChange routeBoundsSpec)) routeBoundsCard

/-- THE TIED CARD OF 'legatelaw7.RoutePaths'. -/
def routePathsCard : Claim7 := { stood := { row := routePathsRow, standIns := [], harness := (true, "c6cf875bc2bfb5b7577f740641d16d1a93aa0cd2da69d40e5af02aa1da810abd"), looks := false }, kinds := [], alts := [], laidByText := true, laidKinds := [.data, .pinned], laidTests := true, laidLooks := .later }
def RoutePathsCardSaid : Prop := Claim7.holds Tryd.pinned (.plain (OpenSpec.ofChange routePathsSpec)) routePathsCard

/-- THE TIED CARD OF 'legatelaw7.RouteAllows'. -/
def routeAllowsCard : Claim7 := { stood := { row := routeAllowsRow, standIns := [], harness := (true, "c6cf875bc2bfb5b7577f740641d16d1a93aa0cd2da69d40e5af02aa1da810abd"), looks := false }, kinds := [], alts := [], laidByText := true, laidKinds := [.data, .pinned], laidTests := true, laidLooks := .later }
def RouteAllowsCardSaid : Prop := Claim7.holds Tryd.pinned (.plain (OpenSpec.ofChange routeAllowsSpec)) routeAllowsCard

/-- THE SECOND FORM's CARD OF 'legatelaw7.RouteMay'. -/
def routeMayUptoCard : Claim7 := { stood := { row := routeMayUptoRow, standIns := [], harness := (true, "c6cf875bc2bfb5b7577f740641d16d1a93aa0cd2da69d40e5af02aa1da810abd"), looks := false }, kinds := [], alts := [], laidByText := true, laidKinds := [.data, .pinned], laidTests := true, laidLooks := .later }
def RouteMayUptoCardSaid : Prop := Claim7.holds Tryd.pinned (.plain (OpenSpec.upto routeMaySpec)) routeMayUptoCard

/-- THE SECOND FORM's CARD OF 'legatelaw7.RouteWalks'. -/
def routeWalksUptoCard : Claim7 := { stood := { row := routeWalksUptoRow, standIns := [], harness := (true, "c6cf875bc2bfb5b7577f740641d16d1a93aa0cd2da69d40e5af02aa1da810abd"), looks := false }, kinds := [], alts := [], laidByText := true, laidKinds := [.data, .pinned], laidTests := true, laidLooks := .later }
def RouteWalksUptoCardSaid : Prop := Claim7.holds Tryd.pinned (.plain (OpenSpec.upto routeWalksSpec)) routeWalksUptoCard

/-- THE SECOND FORM's CARD OF 'legatelaw7.RouteTrees'. -/
def routeTreesUptoCard : Claim7 := { stood := { row := routeTreesUptoRow, standIns := [], harness := (true, "c6cf875bc2bfb5b7577f740641d16d1a93aa0cd2da69d40e5af02aa1da810abd"), looks := false }, kinds := [], alts := [], laidByText := true, laidKinds := [.data, .pinned], laidTests := true, laidLooks := .later }
def RouteTreesUptoCardSaid : Prop := Claim7.holds Tryd.pinned (.plain (OpenSpec.upto routeTreesSpec)) routeTreesUptoCard

/-- THE SECOND FORM's CARD OF 'legatelaw7.RouteDirect'. -/
def routeDirectUptoCard : Claim7 := { stood := { row := routeDirectUptoRow, standIns := [], harness := (true, "c6cf875bc2bfb5b7577f740641d16d1a93aa0cd2da69d40e5af02aa1da810abd"), looks := false }, kinds := [], alts := [], laidByText := true, laidKinds := [.data, .pinned], laidTests := true, laidLooks := .later }
def RouteDirectUptoCardSaid : Prop := Claim7.holds Tryd.pinned (.plain (OpenSpec.upto routeDirectSpec)) routeDirectUptoCard

/-- THE SECOND FORM's CARD OF 'legatelaw7.RouteNone'. -/
def routeNoneUptoCard : Claim7 := { stood := { row := routeNoneUptoRow, standIns := [], harness := (true, "c6cf875bc2bfb5b7577f740641d16d1a93aa0cd2da69d40e5af02aa1da810abd"), looks := false }, kinds := [], alts := [], laidByText := true, laidKinds := [.data, .pinned], laidTests := true, laidLooks := .later }
def RouteNoneUptoCardSaid : Prop := Claim7.holds Tryd.pinned (.plain (OpenSpec.upto routeNoneSpec)) routeNoneUptoCard

/-- THE SECOND FORM's CARD OF 'legatelaw7.RouteBounds'. -/
def routeBoundsUptoCard : Claim7 := { stood := { row := routeBoundsUptoRow, standIns := [], harness := (true, "c6cf875bc2bfb5b7577f740641d16d1a93aa0cd2da69d40e5af02aa1da810abd"), looks := false }, kinds := [], alts := [], laidByText := true, laidKinds := [.data, .pinned], laidTests := true, laidLooks := .later }
def RouteBoundsUptoCardSaid : Prop := Claim7.holds Tryd.pinned (.plain (OpenSpec.upto routeBoundsSpec)) routeBoundsUptoCard

/-- THE SECOND FORM's CARD OF 'legatelaw7.RoutePaths'. -/
def routePathsUptoCard : Claim7 := { stood := { row := routePathsUptoRow, standIns := [], harness := (true, "c6cf875bc2bfb5b7577f740641d16d1a93aa0cd2da69d40e5af02aa1da810abd"), looks := false }, kinds := [], alts := [], laidByText := true, laidKinds := [.data, .pinned], laidTests := true, laidLooks := .later }
def RoutePathsUptoCardSaid : Prop := Claim7.holds Tryd.pinned (.plain (OpenSpec.upto routePathsSpec)) routePathsUptoCard

/-- THE SECOND FORM's CARD OF 'legatelaw7.RouteAllows'. -/
def routeAllowsUptoCard : Claim7 := { stood := { row := routeAllowsUptoRow, standIns := [], harness := (true, "c6cf875bc2bfb5b7577f740641d16d1a93aa0cd2da69d40e5af02aa1da810abd"), looks := false }, kinds := [], alts := [], laidByText := true, laidKinds := [.data, .pinned], laidTests := true, laidLooks := .later }
def RouteAllowsUptoCardSaid : Prop := Claim7.holds Tryd.pinned (.plain (OpenSpec.upto routeAllowsSpec)) routeAllowsUptoCard
end Rows
end Go.Proofs.YtcleonpckgfdhaaDoor
