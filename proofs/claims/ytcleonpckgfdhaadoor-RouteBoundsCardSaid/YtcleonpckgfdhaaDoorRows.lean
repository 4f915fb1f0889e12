/-
  NARROWER THAN 'FOR EVERY INPUT', by the rows' own cells (each row's printed sentence says how): RouteMay: laid · RouteWalks: laid · RouteTrees: laid · RouteDirect: laid · RouteNone: laid · RouteBounds: laid · RoutePaths: laid · RouteAllows: laid.
  DERIVED. THE GIVEN ROWS OF THIS SEAT. 8 by the template 'for every input the law returns true; each argument reads behind the call as it read before'; 0 by the template 'total and deterministic' (their statements: YtcleonpckgfdhaaDoorTotals.lean).
  GIVEN WITH THE SEED: the statements are not yours to turn. If you find one false, say at which input.
  Laid BY PROGRAM, IN A SANDBOX (cutbox-rows.mjs): the forced cells as the released guide's own fill.sh prints them over the translation 508258581faeda08… (all of the seat's roots in one cut). By AI agents, Wed Nov 11 2026. No macro, syntax, notation, axiom, sorry.
-/
import Derived.Test.YtcleonpckgfdhaaDoorChecked
import GoSem.PinnedTables
import GoSem.Claim
import GoSem.ClaimJoined
import GoSem.ClaimMapViews
import Derived.JoinedTies
import Derived.KernelRfl
namespace Go.Proofs.YtcleonpckgfdhaaDoor
/- THE CELL 'sum', in the pinned program and in every row, IS THE sha256 OF THE DUMP (.gsa) THAT YtcleonpckgfdhaaDoorProg.lean LOADS. Nothing in Lean hashes anything: it is a label: what it is worth is what the hold of that sum in a sandbox is worth. -/
noncomputable def Tryd.pinned : Pinned := { name := "ytcleonpckgfdhaadoor", sum := "508258581faeda08b2dfef495f1f4b76bdac94f73918382c0855f3713a29fa40", checked := Tryd.checked }
namespace Rows
def none {H : Type} : Left H := { results := [], args := [] }

/- WHAT THE LISTED PACKAGE-LEVEL VARIABLES READ AS WHEN THE CALL BEGINS. Each datum BY PROGRAM (the guide's laid-datum.mjs) off the statement by which the dump's own 'gosem.cut.vars' lays the variable. In a bare row this is a premise. The card (YtcleonpckgfdhaaDoorCards.lean) ties it to the program's text. -/
def laid_unicode_utf8_acceptRanges {H : Type} : DataW H := .agg [.agg [.lit (.int .u8 128), .lit (.int .u8 191)], .agg [.lit (.int .u8 160), .lit (.int .u8 191)], .agg [.lit (.int .u8 128), .lit (.int .u8 159)], .agg [.lit (.int .u8 144), .lit (.int .u8 191)], .agg [.lit (.int .u8 128), .lit (.int .u8 143)], .agg [.lit (.int .u8 0), .lit (.int .u8 0)], .agg [.lit (.int .u8 0), .lit (.int .u8 0)], .agg [.lit (.int .u8 0), .lit (.int .u8 0)], .agg [.lit (.int .u8 0), .lit (.int .u8 0)], .agg [.lit (.int .u8 0), .lit (.int .u8 0)], .agg [.lit (.int .u8 0), .lit (.int .u8 0)], .agg [.lit (.int .u8 0), .lit (.int .u8 0)], .agg [.lit (.int .u8 0), .lit (.int .u8 0)], .agg [.lit (.int .u8 0), .lit (.int .u8 0)], .agg [.lit (.int .u8 0), .lit (.int .u8 0)], .agg [.lit (.int .u8 0), .lit (.int .u8 0)]]
/-- One of Go's own tables, pinned by name: the form's constant. -/
def laid_unicode_utf8_first : DataW Unit := Go.Pinned.utf8First

/-- 'legatelaw7.RouteMay': WHATEVER THE INPUT: true; the input reads as it did. -/
def routeMaySpec : ChangeSpec := { name := "routeMay", fn := fun _ => fun
  | [d] => { results := [.lit (.bool true)], args := [d] }
  | _ => none }
def routeMayRow : OpenClaim := { program := "ytcleonpckgfdhaadoor", sum := "508258581faeda08b2dfef495f1f4b76bdac94f73918382c0855f3713a29fa40", func := "legate/legatelaw7.RouteMay", spec := "routeMay", inPlace := ["internal/bytealg.CountString", "internal/bytealg.IndexByteString", "internal/bytealg.IndexString", "internal/abi.NoEscape", "internal/bytealg.MakeNoZero"], unfollowed := true, recurses := true, named := ["unicode/utf8.first", "unicode/utf8.acceptRanges", "internal/bytealg.MaxLen"], apart := false, laid := [("unicode/utf8.acceptRanges", laid_unicode_utf8_acceptRanges), ("unicode/utf8.first", laid_unicode_utf8_first)] }
def RouteMaySaid : Prop := routeMayRow.holds Tryd.pinned (OpenSpec.ofChange routeMaySpec)

/-- ITS FALSE NEIGHBOUR: 'it returns false'. Refute it at one input. -/
def routeMayWrong : ChangeSpec := { name := "routeMay", fn := fun _ => fun
  | [d] => { results := [.lit (.bool false)], args := [d] }
  | _ => none }
def RouteMayWrongFalsely : Prop := routeMayRow.holds Tryd.pinned (OpenSpec.ofChange routeMayWrong)

/-- 'legatelaw7.RouteWalks': WHATEVER THE INPUT: true; the input reads as it did. -/
def routeWalksSpec : ChangeSpec := { name := "routeWalks", fn := fun _ => fun
  | [d1, d2, d3] => { results := [.lit (.bool true)], args := [d1, d2, d3] }
  | _ => none }
def routeWalksRow : OpenClaim := { program := "ytcleonpckgfdhaadoor", sum := "508258581faeda08b2dfef495f1f4b76bdac94f73918382c0855f3713a29fa40", func := "legate/legatelaw7.RouteWalks", spec := "routeWalks", inPlace := ["internal/bytealg.CountString", "internal/bytealg.IndexByteString", "internal/bytealg.IndexString", "internal/abi.NoEscape", "internal/bytealg.MakeNoZero"], unfollowed := true, recurses := true, named := ["unicode/utf8.first", "unicode/utf8.acceptRanges", "internal/bytealg.MaxLen"], apart := false, laid := [("unicode/utf8.acceptRanges", laid_unicode_utf8_acceptRanges), ("unicode/utf8.first", laid_unicode_utf8_first)] }
def RouteWalksSaid : Prop := routeWalksRow.holds Tryd.pinned (OpenSpec.ofChange routeWalksSpec)

/-- ITS FALSE NEIGHBOUR: 'it returns false'. Refute it at one input. -/
def routeWalksWrong : ChangeSpec := { name := "routeWalks", fn := fun _ => fun
  | [d1, d2, d3] => { results := [.lit (.bool false)], args := [d1, d2, d3] }
  | _ => none }
def RouteWalksWrongFalsely : Prop := routeWalksRow.holds Tryd.pinned (OpenSpec.ofChange routeWalksWrong)

/-- 'legatelaw7.RouteTrees': WHATEVER THE INPUT: true; the input reads as it did. -/
def routeTreesSpec : ChangeSpec := { name := "routeTrees", fn := fun _ => fun
  | [d1, d2, d3] => { results := [.lit (.bool true)], args := [d1, d2, d3] }
  | _ => none }
def routeTreesRow : OpenClaim := { program := "ytcleonpckgfdhaadoor", sum := "508258581faeda08b2dfef495f1f4b76bdac94f73918382c0855f3713a29fa40", func := "legate/legatelaw7.RouteTrees", spec := "routeTrees", inPlace := ["internal/bytealg.CountString", "internal/bytealg.IndexByteString", "internal/bytealg.IndexString", "internal/abi.NoEscape", "internal/bytealg.MakeNoZero"], unfollowed := true, recurses := true, named := ["unicode/utf8.first", "unicode/utf8.acceptRanges", "internal/bytealg.MaxLen"], apart := false, laid := [("unicode/utf8.acceptRanges", laid_unicode_utf8_acceptRanges), ("unicode/utf8.first", laid_unicode_utf8_first)] }
def RouteTreesSaid : Prop := routeTreesRow.holds Tryd.pinned (OpenSpec.ofChange routeTreesSpec)

/-- ITS FALSE NEIGHBOUR: 'it returns false'. Refute it at one input. -/
def routeTreesWrong : ChangeSpec := { name := "routeTrees", fn := fun _ => fun
  | [d1, d2, d3] => { results := [.lit (.bool false)], args := [d1, d2, d3] }
  | _ => none }
def RouteTreesWrongFalsely : Prop := routeTreesRow.holds Tryd.pinned (OpenSpec.ofChange routeTreesWrong)

/-- 'legatelaw7.RouteDirect': WHATEVER THE INPUT: true; the input reads as it did. -/
def routeDirectSpec : ChangeSpec := { name := "routeDirect", fn := fun _ => fun
  | [d1, d2, d3] => { results := [.lit (.bool true)], args := [d1, d2, d3] }
  | _ => none }
def routeDirectRow : OpenClaim := { program := "ytcleonpckgfdhaadoor", sum := "508258581faeda08b2dfef495f1f4b76bdac94f73918382c0855f3713a29fa40", func := "legate/legatelaw7.RouteDirect", spec := "routeDirect", inPlace := ["internal/bytealg.CountString", "internal/bytealg.IndexByteString", "internal/bytealg.IndexString", "internal/abi.NoEscape", "internal/bytealg.MakeNoZero"], unfollowed := true, recurses := true, named := ["unicode/utf8.first", "unicode/utf8.acceptRanges", "internal/bytealg.MaxLen"], apart := false, laid := [("unicode/utf8.acceptRanges", laid_unicode_utf8_acceptRanges), ("unicode/utf8.first", laid_unicode_utf8_first)] }
def RouteDirectSaid : Prop := routeDirectRow.holds Tryd.pinned (OpenSpec.ofChange routeDirectSpec)

/-- ITS FALSE NEIGHBOUR: 'it returns false'. Refute it at one input. -/
def routeDirectWrong : ChangeSpec := { name := "routeDirect", fn := fun _ => fun
  | [d1, d2, d3] => { results := [.lit (.bool false)], args := [d1, d2, d3] }
  | _ => none }
def RouteDirectWrongFalsely : Prop := routeDirectRow.holds Tryd.pinned (OpenSpec.ofChange routeDirectWrong)

/-- 'legatelaw7.RouteNone': WHATEVER THE INPUT: true; the input reads as it did. -/
def routeNoneSpec : ChangeSpec := { name := "routeNone", fn := fun _ => fun
  | [d1, d2, d3] => { results := [.lit (.bool true)], args := [d1, d2, d3] }
  | _ => none }
def routeNoneRow : OpenClaim := { program := "ytcleonpckgfdhaadoor", sum := "508258581faeda08b2dfef495f1f4b76bdac94f73918382c0855f3713a29fa40", func := "legate/legatelaw7.RouteNone", spec := "routeNone", inPlace := ["internal/bytealg.CountString", "internal/bytealg.IndexByteString", "internal/bytealg.IndexString", "internal/abi.NoEscape", "internal/bytealg.MakeNoZero"], unfollowed := true, recurses := true, named := ["unicode/utf8.first", "unicode/utf8.acceptRanges", "internal/bytealg.MaxLen"], apart := false, laid := [("unicode/utf8.acceptRanges", laid_unicode_utf8_acceptRanges), ("unicode/utf8.first", laid_unicode_utf8_first)] }
def RouteNoneSaid : Prop := routeNoneRow.holds Tryd.pinned (OpenSpec.ofChange routeNoneSpec)

/-- ITS FALSE NEIGHBOUR: 'it returns false'. Refute it at one input. -/
def routeNoneWrong : ChangeSpec := { name := "routeNone", fn := fun _ => fun
  | [d1, d2, d3] => { results := [.lit (.bool false)], args := [d1, d2, d3] }
  | _ => none }
def RouteNoneWrongFalsely : Prop := routeNoneRow.holds Tryd.pinned (OpenSpec.ofChange routeNoneWrong)

/-- 'legatelaw7.RouteBounds': WHATEVER THE INPUT: true; the input reads as it did. -/
def routeBoundsSpec : ChangeSpec := { name := "routeBounds", fn := fun _ => fun
  | [d1, d2, d3] => { results := [.lit (.bool true)], args := [d1, d2, d3] }
  | _ => none }
def routeBoundsRow : OpenClaim := { program := "ytcleonpckgfdhaadoor", sum := "508258581faeda08b2dfef495f1f4b76bdac94f73918382c0855f3713a29fa40", func := "legate/legatelaw7.RouteBounds", spec := "routeBounds", inPlace := ["internal/bytealg.CountString", "internal/bytealg.IndexByteString", "internal/bytealg.IndexString", "internal/abi.NoEscape", "internal/bytealg.MakeNoZero"], unfollowed := true, recurses := true, named := ["unicode/utf8.first", "unicode/utf8.acceptRanges", "internal/bytealg.MaxLen"], apart := false, laid := [("unicode/utf8.acceptRanges", laid_unicode_utf8_acceptRanges), ("unicode/utf8.first", laid_unicode_utf8_first)] }
def RouteBoundsSaid : Prop := routeBoundsRow.holds Tryd.pinned (OpenSpec.ofChange routeBoundsSpec)

/-- ITS FALSE NEIGHBOUR: 'it returns false'. Refute it at one input. -/
def routeBoundsWrong : ChangeSpec := { name := "routeBounds", fn := fun _ => fun
  | [d1, d2, d3] => { results := [.lit (.bool false)], args := [d1, d2, d3] }
  | _ => none }
def RouteBoundsWrongFalsely : Prop := routeBoundsRow.holds Tryd.pinned (OpenSpec.ofChange routeBoundsWrong)

/-- 'legatelaw7.RoutePaths': WHATEVER THE INPUT: true; the input reads as it did. -/
def routePathsSpec : ChangeSpec := { name := "routePaths", fn := fun _ => fun
  | [d1, d2] => { results := [.lit (.bool true)], args := [d1, d2] }
  | _ => none }
def routePathsRow : OpenClaim := { program := "ytcleonpckgfdhaadoor", sum := "508258581faeda08b2dfef495f1f4b76bdac94f73918382c0855f3713a29fa40", func := "legate/legatelaw7.RoutePaths", spec := "routePaths", inPlace := ["internal/bytealg.CountString", "internal/bytealg.IndexByteString", "internal/bytealg.IndexString", "internal/abi.NoEscape", "internal/bytealg.MakeNoZero"], unfollowed := true, recurses := true, named := ["unicode/utf8.first", "unicode/utf8.acceptRanges", "internal/bytealg.MaxLen"], apart := false, laid := [("unicode/utf8.acceptRanges", laid_unicode_utf8_acceptRanges), ("unicode/utf8.first", laid_unicode_utf8_first)] }
def RoutePathsSaid : Prop := routePathsRow.holds Tryd.pinned (OpenSpec.ofChange routePathsSpec)

/-- ITS FALSE NEIGHBOUR: 'it returns false'. Refute it at one input. -/
def routePathsWrong : ChangeSpec := { name := "routePaths", fn := fun _ => fun
  | [d1, d2] => { results := [.lit (.bool false)], args := [d1, d2] }
  | _ => none }
def RoutePathsWrongFalsely : Prop := routePathsRow.holds Tryd.pinned (OpenSpec.ofChange routePathsWrong)

/-- 'legatelaw7.RouteAllows': WHATEVER THE INPUT: true; the input reads as it did. -/
def routeAllowsSpec : ChangeSpec := { name := "routeAllows", fn := fun _ => fun
  | [d1, d2, d3] => { results := [.lit (.bool true)], args := [d1, d2, d3] }
  | _ => none }
def routeAllowsRow : OpenClaim := { program := "ytcleonpckgfdhaadoor", sum := "508258581faeda08b2dfef495f1f4b76bdac94f73918382c0855f3713a29fa40", func := "legate/legatelaw7.RouteAllows", spec := "routeAllows", inPlace := ["internal/bytealg.CountString", "internal/bytealg.IndexByteString", "internal/bytealg.IndexString", "internal/abi.NoEscape", "internal/bytealg.MakeNoZero"], unfollowed := true, recurses := true, named := ["unicode/utf8.first", "unicode/utf8.acceptRanges", "internal/bytealg.MaxLen"], apart := false, laid := [("unicode/utf8.acceptRanges", laid_unicode_utf8_acceptRanges), ("unicode/utf8.first", laid_unicode_utf8_first)] }
def RouteAllowsSaid : Prop := routeAllowsRow.holds Tryd.pinned (OpenSpec.ofChange routeAllowsSpec)

/-- ITS FALSE NEIGHBOUR: 'it returns false'. Refute it at one input. -/
def routeAllowsWrong : ChangeSpec := { name := "routeAllows", fn := fun _ => fun
  | [d1, d2, d3] => { results := [.lit (.bool false)], args := [d1, d2, d3] }
  | _ => none }
def RouteAllowsWrongFalsely : Prop := routeAllowsRow.holds Tryd.pinned (OpenSpec.ofChange routeAllowsWrong)

/- THE SECOND FORM. 'bulk': how many values and letters a reading holds, each counted each time it is reached (what is shared counts as often as it is met; a slice's spare places count too). A statement '..UptoSaid' is the law's where the arguments, and the package variables that the reading takes, are together of bulk at most 1048576: NARROWER than '..Said'. Prove '..Said' where nothing that the law and all that it calls make is longer than what came in: it says more and counts as full. Else prove '..UptoSaid'. A law counts once. -/
mutual
def uptoBulk {H : Type} : DataW H → Nat
  | .lit (.string bytes) => bytes.length + 1
  | .lit _ => 1
  | .nil => 1
  | .ptr d => uptoBulk d + 1
  | .slice elems spare => uptoBulkAll elems + uptoBulkAll spare + 1
  | .agg parts => uptoBulkAll parts + 1
  | .iface _ d => uptoBulk d + 1
  | .map entries => uptoBulkEntries entries + 1
  | .held _ => 1
def uptoBulkAll {H : Type} : List (DataW H) → Nat
  | [] => 0
  | d :: r => uptoBulk d + uptoBulkAll r
def uptoBulkEntries {H : Type} : List (Lit × DataW H) → Nat
  | [] => 0
  | x :: r => uptoBulkEntry x + uptoBulkEntries r
def uptoBulkEntry {H : Type} : Lit × DataW H → Nat
  | (.string bytes, d) => bytes.length + uptoBulk d + 1
  | (_, d) => uptoBulk d + 1
 end
def uptoSmall : (H : Type) → List (DataW H) → Bool := fun _ ds => decide (uptoBulkAll ds ≤ 1048576)
def OpenSpec.upto (s : _root_.Go.ChangeSpec) : _root_.Go.OpenSpec := { _root_.Go.OpenSpec.ofChange s with cond := some uptoSmall }

/-- 'legatelaw7.RouteMay', WHERE WHAT IT READS IS OF BULK AT MOST 1048576: true; the input reads as it did. -/
def routeMayUptoRow : OpenClaim := { program := "ytcleonpckgfdhaadoor", sum := "508258581faeda08b2dfef495f1f4b76bdac94f73918382c0855f3713a29fa40", func := "legate/legatelaw7.RouteMay", spec := "routeMay", inPlace := ["internal/bytealg.CountString", "internal/bytealg.IndexByteString", "internal/bytealg.IndexString", "internal/abi.NoEscape", "internal/bytealg.MakeNoZero"], unfollowed := true, recurses := true, named := ["unicode/utf8.first", "unicode/utf8.acceptRanges", "internal/bytealg.MaxLen"], apart := false, laid := [("unicode/utf8.acceptRanges", laid_unicode_utf8_acceptRanges), ("unicode/utf8.first", laid_unicode_utf8_first)], narrowed := true }
def RouteMayUptoSaid : Prop := routeMayUptoRow.holds Tryd.pinned (OpenSpec.upto routeMaySpec)

/-- 'legatelaw7.RouteWalks', WHERE WHAT IT READS IS OF BULK AT MOST 1048576: true; the input reads as it did. -/
def routeWalksUptoRow : OpenClaim := { program := "ytcleonpckgfdhaadoor", sum := "508258581faeda08b2dfef495f1f4b76bdac94f73918382c0855f3713a29fa40", func := "legate/legatelaw7.RouteWalks", spec := "routeWalks", inPlace := ["internal/bytealg.CountString", "internal/bytealg.IndexByteString", "internal/bytealg.IndexString", "internal/abi.NoEscape", "internal/bytealg.MakeNoZero"], unfollowed := true, recurses := true, named := ["unicode/utf8.first", "unicode/utf8.acceptRanges", "internal/bytealg.MaxLen"], apart := false, laid := [("unicode/utf8.acceptRanges", laid_unicode_utf8_acceptRanges), ("unicode/utf8.first", laid_unicode_utf8_first)], narrowed := true }
def RouteWalksUptoSaid : Prop := routeWalksUptoRow.holds Tryd.pinned (OpenSpec.upto routeWalksSpec)

/-- 'legatelaw7.RouteTrees', WHERE WHAT IT READS IS OF BULK AT MOST 1048576: true; the input reads as it did. -/
def routeTreesUptoRow : OpenClaim := { program := "ytcleonpckgfdhaadoor", sum := "508258581faeda08b2dfef495f1f4b76bdac94f73918382c0855f3713a29fa40", func := "legate/legatelaw7.RouteTrees", spec := "routeTrees", inPlace := ["internal/bytealg.CountString", "internal/bytealg.IndexByteString", "internal/bytealg.IndexString", "internal/abi.NoEscape", "internal/bytealg.MakeNoZero"], unfollowed := true, recurses := true, named := ["unicode/utf8.first", "unicode/utf8.acceptRanges", "internal/bytealg.MaxLen"], apart := false, laid := [("unicode/utf8.acceptRanges", laid_unicode_utf8_acceptRanges), ("unicode/utf8.first", laid_unicode_utf8_first)], narrowed := true }
def RouteTreesUptoSaid : Prop := routeTreesUptoRow.holds Tryd.pinned (OpenSpec.upto routeTreesSpec)

/-- 'legatelaw7.RouteDirect', WHERE WHAT IT READS IS OF BULK AT MOST 1048576: true; the input reads as it did. -/
def routeDirectUptoRow : OpenClaim := { program := "ytcleonpckgfdhaadoor", sum := "508258581faeda08b2dfef495f1f4b76bdac94f73918382c0855f3713a29fa40", func := "legate/legatelaw7.RouteDirect", spec := "routeDirect", inPlace := ["internal/bytealg.CountString", "internal/bytealg.IndexByteString", "internal/bytealg.IndexString", "internal/abi.NoEscape", "internal/bytealg.MakeNoZero"], unfollowed := true, recurses := true, named := ["unicode/utf8.first", "unicode/utf8.acceptRanges", "internal/bytealg.MaxLen"], apart := false, laid := [("unicode/utf8.acceptRanges", laid_unicode_utf8_acceptRanges), ("unicode/utf8.first", laid_unicode_utf8_first)], narrowed := true }
def RouteDirectUptoSaid : Prop := routeDirectUptoRow.holds Tryd.pinned (OpenSpec.upto routeDirectSpec)

/-- 'legatelaw7.RouteNone', WHERE WHAT IT READS IS OF BULK AT MOST 1048576: true; the input reads as it did. -/
def routeNoneUptoRow : OpenClaim := { program := "ytcleonpckgfdhaadoor", sum := "508258581faeda08b2dfef495f1f4b76bdac94f73918382c0855f3713a29fa40", func := "legate/legatelaw7.RouteNone", spec := "routeNone", inPlace := ["internal/bytealg.CountString", "internal/bytealg.IndexByteString", "internal/bytealg.IndexString", "internal/abi.NoEscape", "internal/bytealg.MakeNoZero"], unfollowed := true, recurses := true, named := ["unicode/utf8.first", "unicode/utf8.acceptRanges", "internal/bytealg.MaxLen"], apart := false, laid := [("unicode/utf8.acceptRanges", laid_unicode_utf8_acceptRanges), ("unicode/utf8.first", laid_unicode_utf8_first)], narrowed := true }
def RouteNoneUptoSaid : Prop := routeNoneUptoRow.holds Tryd.pinned (OpenSpec.upto routeNoneSpec)

/-- 'legatelaw7.RouteBounds', WHERE WHAT IT READS IS OF BULK AT MOST 1048576: true; the input reads as it did. -/
def routeBoundsUptoRow : OpenClaim := { program := "ytcleonpckgfdhaadoor", sum := "508258581faeda08b2dfef495f1f4b76bdac94f73918382c0855f3713a29fa40", func := "legate/legatelaw7.RouteBounds", spec := "routeBounds", inPlace := ["internal/bytealg.CountString", "internal/bytealg.IndexByteString", "internal/bytealg.IndexString", "internal/abi.NoEscape", "internal/bytealg.MakeNoZero"], unfollowed := true, recurses := true, named := ["unicode/utf8.first", "unicode/utf8.acceptRanges", "internal/bytealg.MaxLen"], apart := false, laid := [("unicode/utf8.acceptRanges", laid_unicode_utf8_acceptRanges), ("unicode/utf8.first", laid_unicode_utf8_first)], narrowed := true }
def RouteBoundsUptoSaid : Prop := routeBoundsUptoRow.holds Tryd.pinned (OpenSpec.upto routeBoundsSpec)

/-- 'legatelaw7.RoutePaths', WHERE WHAT IT READS IS OF BULK AT MOST 1048576: true; the input reads as it did. -/
def routePathsUptoRow : OpenClaim := { program := "ytcleonpckgfdhaadoor", sum := "508258581faeda08b2dfef495f1f4b76bdac94f73918382c0855f3713a29fa40", func := "legate/legatelaw7.RoutePaths", spec := "routePaths", inPlace := ["internal/bytealg.CountString", "internal/bytealg.IndexByteString", "internal/bytealg.IndexString", "internal/abi.NoEscape", "internal/bytealg.MakeNoZero"], unfollowed := true, recurses := true, named := ["unicode/utf8.first", "unicode/utf8.acceptRanges", "internal/bytealg.MaxLen"], apart := false, laid := [("unicode/utf8.acceptRanges", laid_unicode_utf8_acceptRanges), ("unicode/utf8.first", laid_unicode_utf8_first)], narrowed := true }
def RoutePathsUptoSaid : Prop := routePathsUptoRow.holds Tryd.pinned (OpenSpec.upto routePathsSpec)

/-- 'legatelaw7.RouteAllows', WHERE WHAT IT READS IS OF BULK AT MOST 1048576: true; the input reads as it did. -/
def routeAllowsUptoRow : OpenClaim := { program := "ytcleonpckgfdhaadoor", sum := "508258581faeda08b2dfef495f1f4b76bdac94f73918382c0855f3713a29fa40", func := "legate/legatelaw7.RouteAllows", spec := "routeAllows", inPlace := ["internal/bytealg.CountString", "internal/bytealg.IndexByteString", "internal/bytealg.IndexString", "internal/abi.NoEscape", "internal/bytealg.MakeNoZero"], unfollowed := true, recurses := true, named := ["unicode/utf8.first", "unicode/utf8.acceptRanges", "internal/bytealg.MaxLen"], apart := false, laid := [("unicode/utf8.acceptRanges", laid_unicode_utf8_acceptRanges), ("unicode/utf8.first", laid_unicode_utf8_first)], narrowed := true }
def RouteAllowsUptoSaid : Prop := routeAllowsUptoRow.holds Tryd.pinned (OpenSpec.upto routeAllowsSpec)

end Rows
end Go.Proofs.YtcleonpckgfdhaaDoor
