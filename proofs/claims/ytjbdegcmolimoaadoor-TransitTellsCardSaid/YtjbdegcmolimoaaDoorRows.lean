/-
  NARROWER THAN 'FOR EVERY INPUT', by the rows' own cells (each row's printed sentence says how): TransitNull: laid · TransitSlashes: laid · TransitTwice: laid · TransitBack: laid · TransitFull: laid · TransitDots: laid · TransitJunk: laid · TransitTells: laid · TransitInserts: laid · TransitEnds: laid.
  DERIVED. THE GIVEN ROWS OF THIS SEAT. 10 by the template 'for every input the law returns true; each argument reads behind the call as it read before'; 0 by the template 'total and deterministic' (their statements: YtjbdegcmolimoaaDoorTotals.lean).
  GIVEN WITH THE SEED: the statements are not yours to turn. If you find one false, say at which input.
  Laid BY PROGRAM, IN A SANDBOX (cutbox-rows.mjs): the forced cells as the released guide's own fill.sh prints them over the translation 21605ce402866300… (all of the seat's roots in one cut). By AI agents, Wed Nov 11 2026. No macro, syntax, notation, axiom, sorry.
-/
import Derived.Test.YtjbdegcmolimoaaDoorChecked
import GoSem.PinnedTables
import GoSem.Claim
import GoSem.ClaimJoined
import GoSem.ClaimMapViews
import Derived.JoinedTies
import Derived.KernelRfl
namespace Go.Proofs.YtjbdegcmolimoaaDoor
/- THE CELL 'sum', in the pinned program and in every row, IS THE sha256 OF THE DUMP (.gsa) THAT YtjbdegcmolimoaaDoorProg.lean LOADS. Nothing in Lean hashes anything: it is a label: what it is worth is what the hold of that sum in a sandbox is worth. -/
noncomputable def Tryd.pinned : Pinned := { name := "ytjbdegcmolimoaadoor", sum := "21605ce4028663006a6e33f6db5cea697bf202b3f2dea0a167aa08ef2cb17b1b", checked := Tryd.checked }
namespace Rows
def none {H : Type} : Left H := { results := [], args := [] }

/- WHAT THE LISTED PACKAGE-LEVEL VARIABLES READ AS WHEN THE CALL BEGINS. Each datum BY PROGRAM (the guide's laid-datum.mjs) off the statement by which the dump's own 'gosem.cut.vars' lays the variable. In a bare row this is a premise. The card (YtjbdegcmolimoaaDoorCards.lean) ties it to the program's text. -/
def laid_unicode_utf8_acceptRanges {H : Type} : DataW H := .agg [.agg [.lit (.int .u8 128), .lit (.int .u8 191)], .agg [.lit (.int .u8 160), .lit (.int .u8 191)], .agg [.lit (.int .u8 128), .lit (.int .u8 159)], .agg [.lit (.int .u8 144), .lit (.int .u8 191)], .agg [.lit (.int .u8 128), .lit (.int .u8 143)], .agg [.lit (.int .u8 0), .lit (.int .u8 0)], .agg [.lit (.int .u8 0), .lit (.int .u8 0)], .agg [.lit (.int .u8 0), .lit (.int .u8 0)], .agg [.lit (.int .u8 0), .lit (.int .u8 0)], .agg [.lit (.int .u8 0), .lit (.int .u8 0)], .agg [.lit (.int .u8 0), .lit (.int .u8 0)], .agg [.lit (.int .u8 0), .lit (.int .u8 0)], .agg [.lit (.int .u8 0), .lit (.int .u8 0)], .agg [.lit (.int .u8 0), .lit (.int .u8 0)], .agg [.lit (.int .u8 0), .lit (.int .u8 0)], .agg [.lit (.int .u8 0), .lit (.int .u8 0)]]
/-- One of Go's own tables, pinned by name: the form's constant. -/
def laid_unicode_utf8_first : DataW Unit := Go.Pinned.utf8First

/-- 'legatelaw6.TransitNull': WHATEVER THE INPUT: true; the input reads as it did. -/
def transitNullSpec : ChangeSpec := { name := "transitNull", fn := fun _ => fun
  | [d1, d2, d3, d4] => { results := [.lit (.bool true)], args := [d1, d2, d3, d4] }
  | _ => none }
def transitNullRow : OpenClaim := { program := "ytjbdegcmolimoaadoor", sum := "21605ce4028663006a6e33f6db5cea697bf202b3f2dea0a167aa08ef2cb17b1b", func := "legate/legatelaw6.TransitNull", spec := "transitNull", inPlace := ["internal/bytealg.CountString", "internal/bytealg.IndexByteString", "internal/bytealg.IndexString", "internal/abi.NoEscape", "internal/bytealg.MakeNoZero"], unfollowed := true, recurses := true, named := ["unicode/utf8.first", "unicode/utf8.acceptRanges", "internal/bytealg.MaxLen"], apart := false, laid := [("unicode/utf8.acceptRanges", laid_unicode_utf8_acceptRanges), ("unicode/utf8.first", laid_unicode_utf8_first)] }
def TransitNullSaid : Prop := transitNullRow.holds Tryd.pinned (OpenSpec.ofChange transitNullSpec)

/-- ITS FALSE NEIGHBOUR: 'it returns false'. Refute it at one input. -/
def transitNullWrong : ChangeSpec := { name := "transitNull", fn := fun _ => fun
  | [d1, d2, d3, d4] => { results := [.lit (.bool false)], args := [d1, d2, d3, d4] }
  | _ => none }
def TransitNullWrongFalsely : Prop := transitNullRow.holds Tryd.pinned (OpenSpec.ofChange transitNullWrong)

/-- 'legatelaw6.TransitSlashes': WHATEVER THE INPUT: true; the input reads as it did. -/
def transitSlashesSpec : ChangeSpec := { name := "transitSlashes", fn := fun _ => fun
  | [d1, d2] => { results := [.lit (.bool true)], args := [d1, d2] }
  | _ => none }
def transitSlashesRow : OpenClaim := { program := "ytjbdegcmolimoaadoor", sum := "21605ce4028663006a6e33f6db5cea697bf202b3f2dea0a167aa08ef2cb17b1b", func := "legate/legatelaw6.TransitSlashes", spec := "transitSlashes", inPlace := ["internal/bytealg.CountString", "internal/bytealg.IndexByteString", "internal/bytealg.IndexString", "internal/abi.NoEscape", "internal/bytealg.MakeNoZero"], unfollowed := true, recurses := true, named := ["unicode/utf8.first", "unicode/utf8.acceptRanges", "internal/bytealg.MaxLen"], apart := false, laid := [("unicode/utf8.acceptRanges", laid_unicode_utf8_acceptRanges), ("unicode/utf8.first", laid_unicode_utf8_first)] }
def TransitSlashesSaid : Prop := transitSlashesRow.holds Tryd.pinned (OpenSpec.ofChange transitSlashesSpec)

/-- ITS FALSE NEIGHBOUR: 'it returns false'. Refute it at one input. -/
def transitSlashesWrong : ChangeSpec := { name := "transitSlashes", fn := fun _ => fun
  | [d1, d2] => { results := [.lit (.bool false)], args := [d1, d2] }
  | _ => none }
def TransitSlashesWrongFalsely : Prop := transitSlashesRow.holds Tryd.pinned (OpenSpec.ofChange transitSlashesWrong)

/-- 'legatelaw6.TransitTwice': WHATEVER THE INPUT: true; the input reads as it did. -/
def transitTwiceSpec : ChangeSpec := { name := "transitTwice", fn := fun _ => fun
  | [d1, d2, d3] => { results := [.lit (.bool true)], args := [d1, d2, d3] }
  | _ => none }
def transitTwiceRow : OpenClaim := { program := "ytjbdegcmolimoaadoor", sum := "21605ce4028663006a6e33f6db5cea697bf202b3f2dea0a167aa08ef2cb17b1b", func := "legate/legatelaw6.TransitTwice", spec := "transitTwice", inPlace := ["internal/bytealg.CountString", "internal/bytealg.IndexByteString", "internal/bytealg.IndexString", "internal/abi.NoEscape", "internal/bytealg.MakeNoZero"], unfollowed := true, recurses := true, named := ["unicode/utf8.first", "unicode/utf8.acceptRanges", "internal/bytealg.MaxLen"], apart := false, laid := [("unicode/utf8.acceptRanges", laid_unicode_utf8_acceptRanges), ("unicode/utf8.first", laid_unicode_utf8_first)] }
def TransitTwiceSaid : Prop := transitTwiceRow.holds Tryd.pinned (OpenSpec.ofChange transitTwiceSpec)

/-- ITS FALSE NEIGHBOUR: 'it returns false'. Refute it at one input. -/
def transitTwiceWrong : ChangeSpec := { name := "transitTwice", fn := fun _ => fun
  | [d1, d2, d3] => { results := [.lit (.bool false)], args := [d1, d2, d3] }
  | _ => none }
def TransitTwiceWrongFalsely : Prop := transitTwiceRow.holds Tryd.pinned (OpenSpec.ofChange transitTwiceWrong)

/-- 'legatelaw6.TransitBack': WHATEVER THE INPUT: true; the input reads as it did. -/
def transitBackSpec : ChangeSpec := { name := "transitBack", fn := fun _ => fun
  | [d1, d2, d3] => { results := [.lit (.bool true)], args := [d1, d2, d3] }
  | _ => none }
def transitBackRow : OpenClaim := { program := "ytjbdegcmolimoaadoor", sum := "21605ce4028663006a6e33f6db5cea697bf202b3f2dea0a167aa08ef2cb17b1b", func := "legate/legatelaw6.TransitBack", spec := "transitBack", inPlace := ["internal/bytealg.CountString", "internal/bytealg.IndexByteString", "internal/bytealg.IndexString", "internal/abi.NoEscape", "internal/bytealg.MakeNoZero"], unfollowed := true, recurses := true, named := ["unicode/utf8.first", "unicode/utf8.acceptRanges", "internal/bytealg.MaxLen"], apart := false, laid := [("unicode/utf8.acceptRanges", laid_unicode_utf8_acceptRanges), ("unicode/utf8.first", laid_unicode_utf8_first)] }
def TransitBackSaid : Prop := transitBackRow.holds Tryd.pinned (OpenSpec.ofChange transitBackSpec)

/-- ITS FALSE NEIGHBOUR: 'it returns false'. Refute it at one input. -/
def transitBackWrong : ChangeSpec := { name := "transitBack", fn := fun _ => fun
  | [d1, d2, d3] => { results := [.lit (.bool false)], args := [d1, d2, d3] }
  | _ => none }
def TransitBackWrongFalsely : Prop := transitBackRow.holds Tryd.pinned (OpenSpec.ofChange transitBackWrong)

/-- 'legatelaw6.TransitFull': WHATEVER THE INPUT: true; the input reads as it did. -/
def transitFullSpec : ChangeSpec := { name := "transitFull", fn := fun _ => fun
  | [d] => { results := [.lit (.bool true)], args := [d] }
  | _ => none }
def transitFullRow : OpenClaim := { program := "ytjbdegcmolimoaadoor", sum := "21605ce4028663006a6e33f6db5cea697bf202b3f2dea0a167aa08ef2cb17b1b", func := "legate/legatelaw6.TransitFull", spec := "transitFull", inPlace := ["internal/bytealg.CountString", "internal/bytealg.IndexByteString", "internal/bytealg.IndexString", "internal/abi.NoEscape", "internal/bytealg.MakeNoZero"], unfollowed := true, recurses := true, named := ["unicode/utf8.first", "unicode/utf8.acceptRanges", "internal/bytealg.MaxLen"], apart := false, laid := [("unicode/utf8.acceptRanges", laid_unicode_utf8_acceptRanges), ("unicode/utf8.first", laid_unicode_utf8_first)] }
def TransitFullSaid : Prop := transitFullRow.holds Tryd.pinned (OpenSpec.ofChange transitFullSpec)

/-- ITS FALSE NEIGHBOUR: 'it returns false'. Refute it at one input. -/
def transitFullWrong : ChangeSpec := { name := "transitFull", fn := fun _ => fun
  | [d] => { results := [.lit (.bool false)], args := [d] }
  | _ => none }
def TransitFullWrongFalsely : Prop := transitFullRow.holds Tryd.pinned (OpenSpec.ofChange transitFullWrong)

/-- 'legatelaw6.TransitDots': WHATEVER THE INPUT: true; the input reads as it did. -/
def transitDotsSpec : ChangeSpec := { name := "transitDots", fn := fun _ => fun
  | [d1, d2] => { results := [.lit (.bool true)], args := [d1, d2] }
  | _ => none }
def transitDotsRow : OpenClaim := { program := "ytjbdegcmolimoaadoor", sum := "21605ce4028663006a6e33f6db5cea697bf202b3f2dea0a167aa08ef2cb17b1b", func := "legate/legatelaw6.TransitDots", spec := "transitDots", inPlace := ["internal/bytealg.CountString", "internal/bytealg.IndexByteString", "internal/bytealg.IndexString", "internal/abi.NoEscape", "internal/bytealg.MakeNoZero"], unfollowed := true, recurses := true, named := ["unicode/utf8.first", "unicode/utf8.acceptRanges", "internal/bytealg.MaxLen"], apart := false, laid := [("unicode/utf8.acceptRanges", laid_unicode_utf8_acceptRanges), ("unicode/utf8.first", laid_unicode_utf8_first)] }
def TransitDotsSaid : Prop := transitDotsRow.holds Tryd.pinned (OpenSpec.ofChange transitDotsSpec)

/-- ITS FALSE NEIGHBOUR: 'it returns false'. Refute it at one input. -/
def transitDotsWrong : ChangeSpec := { name := "transitDots", fn := fun _ => fun
  | [d1, d2] => { results := [.lit (.bool false)], args := [d1, d2] }
  | _ => none }
def TransitDotsWrongFalsely : Prop := transitDotsRow.holds Tryd.pinned (OpenSpec.ofChange transitDotsWrong)

/-- 'legatelaw6.TransitJunk': WHATEVER THE INPUT: true; the input reads as it did. -/
def transitJunkSpec : ChangeSpec := { name := "transitJunk", fn := fun _ => fun
  | [d1, d2, d3] => { results := [.lit (.bool true)], args := [d1, d2, d3] }
  | _ => none }
def transitJunkRow : OpenClaim := { program := "ytjbdegcmolimoaadoor", sum := "21605ce4028663006a6e33f6db5cea697bf202b3f2dea0a167aa08ef2cb17b1b", func := "legate/legatelaw6.TransitJunk", spec := "transitJunk", inPlace := ["internal/bytealg.CountString", "internal/bytealg.IndexByteString", "internal/bytealg.IndexString", "internal/abi.NoEscape", "internal/bytealg.MakeNoZero"], unfollowed := true, recurses := true, named := ["unicode/utf8.first", "unicode/utf8.acceptRanges", "internal/bytealg.MaxLen"], apart := false, laid := [("unicode/utf8.acceptRanges", laid_unicode_utf8_acceptRanges), ("unicode/utf8.first", laid_unicode_utf8_first)] }
def TransitJunkSaid : Prop := transitJunkRow.holds Tryd.pinned (OpenSpec.ofChange transitJunkSpec)

/-- ITS FALSE NEIGHBOUR: 'it returns false'. Refute it at one input. -/
def transitJunkWrong : ChangeSpec := { name := "transitJunk", fn := fun _ => fun
  | [d1, d2, d3] => { results := [.lit (.bool false)], args := [d1, d2, d3] }
  | _ => none }
def TransitJunkWrongFalsely : Prop := transitJunkRow.holds Tryd.pinned (OpenSpec.ofChange transitJunkWrong)

/-- 'legatelaw6.TransitTells': WHATEVER THE INPUT: true; the input reads as it did. -/
def transitTellsSpec : ChangeSpec := { name := "transitTells", fn := fun _ => fun
  | [d1, d2, d3, d4, d5] => { results := [.lit (.bool true)], args := [d1, d2, d3, d4, d5] }
  | _ => none }
def transitTellsRow : OpenClaim := { program := "ytjbdegcmolimoaadoor", sum := "21605ce4028663006a6e33f6db5cea697bf202b3f2dea0a167aa08ef2cb17b1b", func := "legate/legatelaw6.TransitTells", spec := "transitTells", inPlace := ["internal/bytealg.CountString", "internal/bytealg.IndexByteString", "internal/bytealg.IndexString", "internal/abi.NoEscape", "internal/bytealg.MakeNoZero"], unfollowed := true, recurses := true, named := ["unicode/utf8.first", "unicode/utf8.acceptRanges", "internal/bytealg.MaxLen"], apart := false, laid := [("unicode/utf8.acceptRanges", laid_unicode_utf8_acceptRanges), ("unicode/utf8.first", laid_unicode_utf8_first)] }
def TransitTellsSaid : Prop := transitTellsRow.holds Tryd.pinned (OpenSpec.ofChange transitTellsSpec)

/-- ITS FALSE NEIGHBOUR: 'it returns false'. Refute it at one input. -/
def transitTellsWrong : ChangeSpec := { name := "transitTells", fn := fun _ => fun
  | [d1, d2, d3, d4, d5] => { results := [.lit (.bool false)], args := [d1, d2, d3, d4, d5] }
  | _ => none }
def TransitTellsWrongFalsely : Prop := transitTellsRow.holds Tryd.pinned (OpenSpec.ofChange transitTellsWrong)

/-- 'legatelaw6.TransitInserts': WHATEVER THE INPUT: true; the input reads as it did. -/
def transitInsertsSpec : ChangeSpec := { name := "transitInserts", fn := fun _ => fun
  | [d1, d2, d3, d4] => { results := [.lit (.bool true)], args := [d1, d2, d3, d4] }
  | _ => none }
def transitInsertsRow : OpenClaim := { program := "ytjbdegcmolimoaadoor", sum := "21605ce4028663006a6e33f6db5cea697bf202b3f2dea0a167aa08ef2cb17b1b", func := "legate/legatelaw6.TransitInserts", spec := "transitInserts", inPlace := ["internal/bytealg.CountString", "internal/bytealg.IndexByteString", "internal/bytealg.IndexString", "internal/abi.NoEscape", "internal/bytealg.MakeNoZero"], unfollowed := true, recurses := true, named := ["unicode/utf8.first", "unicode/utf8.acceptRanges", "internal/bytealg.MaxLen"], apart := false, laid := [("unicode/utf8.acceptRanges", laid_unicode_utf8_acceptRanges), ("unicode/utf8.first", laid_unicode_utf8_first)] }
def TransitInsertsSaid : Prop := transitInsertsRow.holds Tryd.pinned (OpenSpec.ofChange transitInsertsSpec)

/-- ITS FALSE NEIGHBOUR: 'it returns false'. Refute it at one input. -/
def transitInsertsWrong : ChangeSpec := { name := "transitInserts", fn := fun _ => fun
  | [d1, d2, d3, d4] => { results := [.lit (.bool false)], args := [d1, d2, d3, d4] }
  | _ => none }
def TransitInsertsWrongFalsely : Prop := transitInsertsRow.holds Tryd.pinned (OpenSpec.ofChange transitInsertsWrong)

/-- 'legatelaw6.TransitEnds': WHATEVER THE INPUT: true; the input reads as it did. -/
def transitEndsSpec : ChangeSpec := { name := "transitEnds", fn := fun _ => fun
  | [d1, d2, d3] => { results := [.lit (.bool true)], args := [d1, d2, d3] }
  | _ => none }
def transitEndsRow : OpenClaim := { program := "ytjbdegcmolimoaadoor", sum := "21605ce4028663006a6e33f6db5cea697bf202b3f2dea0a167aa08ef2cb17b1b", func := "legate/legatelaw6.TransitEnds", spec := "transitEnds", inPlace := ["internal/bytealg.CountString", "internal/bytealg.IndexByteString", "internal/bytealg.IndexString", "internal/abi.NoEscape", "internal/bytealg.MakeNoZero"], unfollowed := true, recurses := true, named := ["unicode/utf8.first", "unicode/utf8.acceptRanges", "internal/bytealg.MaxLen"], apart := false, laid := [("unicode/utf8.acceptRanges", laid_unicode_utf8_acceptRanges), ("unicode/utf8.first", laid_unicode_utf8_first)] }
def TransitEndsSaid : Prop := transitEndsRow.holds Tryd.pinned (OpenSpec.ofChange transitEndsSpec)

/-- ITS FALSE NEIGHBOUR: 'it returns false'. Refute it at one input. -/
def transitEndsWrong : ChangeSpec := { name := "transitEnds", fn := fun _ => fun
  | [d1, d2, d3] => { results := [.lit (.bool false)], args := [d1, d2, d3] }
  | _ => none }
def TransitEndsWrongFalsely : Prop := transitEndsRow.holds Tryd.pinned (OpenSpec.ofChange transitEndsWrong)

/- THE SECOND FORM. 'bulk': how many values and letters a reading holds, each counted each time it is reached (what is shared counts as often as it is met; a slice's spare places count too). A statement '..UptoSaid' is the law's where the arguments, and the package variables that the reading takes, are together of bulk at most 1048576: NARROWER than '..Said'. Prove '..Said' where nothing that the law and all that it calls make is longer than what came in: it says more and counts as full. Else prove '..UptoSaid'. A law counts once. -/
mutual
def uptoBulk {H : Type} : DataW H → Nat
  | .lit (.string bytes) => bytes.length + 1
  | .lit _ => 1
  | .nil => 1
  | .ptr d => uptoBulk d + 1
  | .slice elems spare => uptoBulkAll elems + uptoBulkAll spare + 1
  | .agg parts => uptoBulkAll parts + 1
  | .iface _ d => uptoBulk d + 1
  | .map entries => uptoBulkEntries entries + 1
  | .held _ => 1
def uptoBulkAll {H : Type} : List (DataW H) → Nat
  | [] => 0
  | d :: r => uptoBulk d + uptoBulkAll r
def uptoBulkEntries {H : Type} : List (Lit × DataW H) → Nat
  | [] => 0
  | x :: r => uptoBulkEntry x + uptoBulkEntries r
def uptoBulkEntry {H : Type} : Lit × DataW H → Nat
  | (.string bytes, d) => bytes.length + uptoBulk d + 1
  | (_, d) => uptoBulk d + 1
 end
def uptoSmall : (H : Type) → List (DataW H) → Bool := fun _ ds => decide (uptoBulkAll ds ≤ 1048576)
def OpenSpec.upto (s : _root_.Go.ChangeSpec) : _root_.Go.OpenSpec := { _root_.Go.OpenSpec.ofChange s with cond := some uptoSmall }

/-- 'legatelaw6.TransitNull', WHERE WHAT IT READS IS OF BULK AT MOST 1048576: true; the input reads as it did. -/
def transitNullUptoRow : OpenClaim := { program := "ytjbdegcmolimoaadoor", sum := "21605ce4028663006a6e33f6db5cea697bf202b3f2dea0a167aa08ef2cb17b1b", func := "legate/legatelaw6.TransitNull", spec := "transitNull", inPlace := ["internal/bytealg.CountString", "internal/bytealg.IndexByteString", "internal/bytealg.IndexString", "internal/abi.NoEscape", "internal/bytealg.MakeNoZero"], unfollowed := true, recurses := true, named := ["unicode/utf8.first", "unicode/utf8.acceptRanges", "internal/bytealg.MaxLen"], apart := false, laid := [("unicode/utf8.acceptRanges", laid_unicode_utf8_acceptRanges), ("unicode/utf8.first", laid_unicode_utf8_first)], narrowed := true }
def TransitNullUptoSaid : Prop := transitNullUptoRow.holds Tryd.pinned (OpenSpec.upto transitNullSpec)

/-- 'legatelaw6.TransitSlashes', WHERE WHAT IT READS IS OF BULK AT MOST 1048576: true; the input reads as it did. -/
def transitSlashesUptoRow : OpenClaim := { program := "ytjbdegcmolimoaadoor", sum := "21605ce4028663006a6e33f6db5cea697bf202b3f2dea0a167aa08ef2cb17b1b", func := "legate/legatelaw6.TransitSlashes", spec := "transitSlashes", inPlace := ["internal/bytealg.CountString", "internal/bytealg.IndexByteString", "internal/bytealg.IndexString", "internal/abi.NoEscape", "internal/bytealg.MakeNoZero"], unfollowed := true, recurses := true, named := ["unicode/utf8.first", "unicode/utf8.acceptRanges", "internal/bytealg.MaxLen"], apart := false, laid := [("unicode/utf8.acceptRanges", laid_unicode_utf8_acceptRanges), ("unicode/utf8.first", laid_unicode_utf8_first)], narrowed := true }
def TransitSlashesUptoSaid : Prop := transitSlashesUptoRow.holds Tryd.pinned (OpenSpec.upto transitSlashesSpec)

/-- 'legatelaw6.TransitTwice', WHERE WHAT IT READS IS OF BULK AT MOST 1048576: true; the input reads as it did. -/
def transitTwiceUptoRow : OpenClaim := { program := "ytjbdegcmolimoaadoor", sum := "21605ce4028663006a6e33f6db5cea697bf202b3f2dea0a167aa08ef2cb17b1b", func := "legate/legatelaw6.TransitTwice", spec := "transitTwice", inPlace := ["internal/bytealg.CountString", "internal/bytealg.IndexByteString", "internal/bytealg.IndexString", "internal/abi.NoEscape", "internal/bytealg.MakeNoZero"], unfollowed := true, recurses := true, named := ["unicode/utf8.first", "unicode/utf8.acceptRanges", "internal/bytealg.MaxLen"], apart := false, laid := [("unicode/utf8.acceptRanges", laid_unicode_utf8_acceptRanges), ("unicode/utf8.first", laid_unicode_utf8_first)], narrowed := true }
def TransitTwiceUptoSaid : Prop := transitTwiceUptoRow.holds Tryd.pinned (OpenSpec.upto transitTwiceSpec)

/-- 'legatelaw6.TransitBack', WHERE WHAT IT READS IS OF BULK AT MOST 1048576: true; the input reads as it did. -/
def transitBackUptoRow : OpenClaim := { program := "ytjbdegcmolimoaadoor", sum := "21605ce4028663006a6e33f6db5cea697bf202b3f2dea0a167aa08ef2cb17b1b", func := "legate/legatelaw6.TransitBack", spec := "transitBack", inPlace := ["internal/bytealg.CountString", "internal/bytealg.IndexByteString", "internal/bytealg.IndexString", "internal/abi.NoEscape", "internal/bytealg.MakeNoZero"], unfollowed := true, recurses := true, named := ["unicode/utf8.first", "unicode/utf8.acceptRanges", "internal/bytealg.MaxLen"], apart := false, laid := [("unicode/utf8.acceptRanges", laid_unicode_utf8_acceptRanges), ("unicode/utf8.first", laid_unicode_utf8_first)], narrowed := true }
def TransitBackUptoSaid : Prop := transitBackUptoRow.holds Tryd.pinned (OpenSpec.upto transitBackSpec)

/-- 'legatelaw6.TransitFull', WHERE WHAT IT READS IS OF BULK AT MOST 1048576: true; the input reads as it did. -/
def transitFullUptoRow : OpenClaim := { program := "ytjbdegcmolimoaadoor", sum := "21605ce4028663006a6e33f6db5cea697bf202b3f2dea0a167aa08ef2cb17b1b", func := "legate/legatelaw6.TransitFull", spec := "transitFull", inPlace := ["internal/bytealg.CountString", "internal/bytealg.IndexByteString", "internal/bytealg.IndexString", "internal/abi.NoEscape", "internal/bytealg.MakeNoZero"], unfollowed := true, recurses := true, named := ["unicode/utf8.first", "unicode/utf8.acceptRanges", "internal/bytealg.MaxLen"], apart := false, laid := [("unicode/utf8.acceptRanges", laid_unicode_utf8_acceptRanges), ("unicode/utf8.first", laid_unicode_utf8_first)], narrowed := true }
def TransitFullUptoSaid : Prop := transitFullUptoRow.holds Tryd.pinned (OpenSpec.upto transitFullSpec)

/-- 'legatelaw6.TransitDots', WHERE WHAT IT READS IS OF BULK AT MOST 1048576: true; the input reads as it did. -/
def transitDotsUptoRow : OpenClaim := { program := "ytjbdegcmolimoaadoor", sum := "21605ce4028663006a6e33f6db5cea697bf202b3f2dea0a167aa08ef2cb17b1b", func := "legate/legatelaw6.TransitDots", spec := "transitDots", inPlace := ["internal/bytealg.CountString", "internal/bytealg.IndexByteString", "internal/bytealg.IndexString", "internal/abi.NoEscape", "internal/bytealg.MakeNoZero"], unfollowed := true, recurses := true, named := ["unicode/utf8.first", "unicode/utf8.acceptRanges", "internal/bytealg.MaxLen"], apart := false, laid := [("unicode/utf8.acceptRanges", laid_unicode_utf8_acceptRanges), ("unicode/utf8.first", laid_unicode_utf8_first)], narrowed := true }
def TransitDotsUptoSaid : Prop := transitDotsUptoRow.holds Tryd.pinned (OpenSpec.upto transitDotsSpec)

/-- 'legatelaw6.TransitJunk', WHERE WHAT IT READS IS OF BULK AT MOST 1048576: true; the input reads as it did. -/
def transitJunkUptoRow : OpenClaim := { program := "ytjbdegcmolimoaadoor", sum := "21605ce4028663006a6e33f6db5cea697bf202b3f2dea0a167aa08ef2cb17b1b", func := "legate/legatelaw6.TransitJunk", spec := "transitJunk", inPlace := ["internal/bytealg.CountString", "internal/bytealg.IndexByteString", "internal/bytealg.IndexString", "internal/abi.NoEscape", "internal/bytealg.MakeNoZero"], unfollowed := true, recurses := true, named := ["unicode/utf8.first", "unicode/utf8.acceptRanges", "internal/bytealg.MaxLen"], apart := false, laid := [("unicode/utf8.acceptRanges", laid_unicode_utf8_acceptRanges), ("unicode/utf8.first", laid_unicode_utf8_first)], narrowed := true }
def TransitJunkUptoSaid : Prop := transitJunkUptoRow.holds Tryd.pinned (OpenSpec.upto transitJunkSpec)

/-- 'legatelaw6.TransitTells', WHERE WHAT IT READS IS OF BULK AT MOST 1048576: true; the input reads as it did. -/
def transitTellsUptoRow : OpenClaim := { program := "ytjbdegcmolimoaadoor", sum := "21605ce4028663006a6e33f6db5cea697bf202b3f2dea0a167aa08ef2cb17b1b", func := "legate/legatelaw6.TransitTells", spec := "transitTells", inPlace := ["internal/bytealg.CountString", "internal/bytealg.IndexByteString", "internal/bytealg.IndexString", "internal/abi.NoEscape", "internal/bytealg.MakeNoZero"], unfollowed := true, recurses := true, named := ["unicode/utf8.first", "unicode/utf8.acceptRanges", "internal/bytealg.MaxLen"], apart := false, laid := [("unicode/utf8.acceptRanges", laid_unicode_utf8_acceptRanges), ("unicode/utf8.first", laid_unicode_utf8_first)], narrowed := true }
def TransitTellsUptoSaid : Prop := transitTellsUptoRow.holds Tryd.pinned (OpenSpec.upto transitTellsSpec)

/-- 'legatelaw6.TransitInserts', WHERE WHAT IT READS IS OF BULK AT MOST 1048576: true; the input reads as it did. -/
def transitInsertsUptoRow : OpenClaim := { program := "ytjbdegcmolimoaadoor", sum := "21605ce4028663006a6e33f6db5cea697bf202b3f2dea0a167aa08ef2cb17b1b", func := "legate/legatelaw6.TransitInserts", spec := "transitInserts", inPlace := ["internal/bytealg.CountString", "internal/bytealg.IndexByteString", "internal/bytealg.IndexString", "internal/abi.NoEscape", "internal/bytealg.MakeNoZero"], unfollowed := true, recurses := true, named := ["unicode/utf8.first", "unicode/utf8.acceptRanges", "internal/bytealg.MaxLen"], apart := false, laid := [("unicode/utf8.acceptRanges", laid_unicode_utf8_acceptRanges), ("unicode/utf8.first", laid_unicode_utf8_first)], narrowed := true }
def TransitInsertsUptoSaid : Prop := transitInsertsUptoRow.holds Tryd.pinned (OpenSpec.upto transitInsertsSpec)

/-- 'legatelaw6.TransitEnds', WHERE WHAT IT READS IS OF BULK AT MOST 1048576: true; the input reads as it did. -/
def transitEndsUptoRow : OpenClaim := { program := "ytjbdegcmolimoaadoor", sum := "21605ce4028663006a6e33f6db5cea697bf202b3f2dea0a167aa08ef2cb17b1b", func := "legate/legatelaw6.TransitEnds", spec := "transitEnds", inPlace := ["internal/bytealg.CountString", "internal/bytealg.IndexByteString", "internal/bytealg.IndexString", "internal/abi.NoEscape", "internal/bytealg.MakeNoZero"], unfollowed := true, recurses := true, named := ["unicode/utf8.first", "unicode/utf8.acceptRanges", "internal/bytealg.MaxLen"], apart := false, laid := [("unicode/utf8.acceptRanges", laid_unicode_utf8_acceptRanges), ("unicode/utf8.first", laid_unicode_utf8_first)], narrowed := true }
def TransitEndsUptoSaid : Prop := transitEndsUptoRow.holds Tryd.pinned (OpenSpec.upto transitEndsSpec)

end Rows
end Go.Proofs.YtjbdegcmolimoaaDoor
