/-
  NARROWER THAN 'FOR EVERY INPUT', by the rows' own cells (each row's printed sentence says how): NameBack: laid · NameTops: laid · NameWay: laid · NameCase: laid · NameUnders: laid · NameLabels: laid · NamePrincs: laid · NameUp: laid · NameTells: laid.
  DERIVED. THE GIVEN ROWS OF THIS SEAT. 9 by the template 'for every input the law returns true; each argument reads behind the call as it read before'; 0 by the template 'total and deterministic' (their statements: YtnifihnlmanpkaaDoorTotals.lean).
  GIVEN WITH THE SEED: the statements are not yours to turn. If you find one false, say at which input.
  Laid BY PROGRAM, IN A SANDBOX (cutbox-rows.mjs): the forced cells as the released guide's own fill.sh prints them over the translation 54a1143b4db2b8f1… (all of the seat's roots in one cut). By AI agents, Wed Nov 11 2026. No macro, syntax, notation, axiom, sorry.
-/
import Derived.Test.YtnifihnlmanpkaaDoorChecked
import GoSem.PinnedTables
import GoSem.Claim
import GoSem.ClaimJoined
import GoSem.ClaimMapViews
import Derived.JoinedTies
import Derived.KernelRfl
namespace Go.Proofs.YtnifihnlmanpkaaDoor
/- THE CELL 'sum', in the pinned program and in every row, IS THE sha256 OF THE DUMP (.gsa) THAT YtnifihnlmanpkaaDoorProg.lean LOADS. Nothing in Lean hashes anything: it is a label: what it is worth is what the hold of that sum in a sandbox is worth. -/
noncomputable def Tryd.pinned : Pinned := { name := "ytnifihnlmanpkaadoor", sum := "54a1143b4db2b8f1de70f5dc8a4806ec7e5e69b48f0cf9782b2c477dd54856b7", checked := Tryd.checked }
namespace Rows
def none {H : Type} : Left H := { results := [], args := [] }

/- WHAT THE LISTED PACKAGE-LEVEL VARIABLES READ AS WHEN THE CALL BEGINS. Each datum BY PROGRAM (the guide's laid-datum.mjs) off the statement by which the dump's own 'gosem.cut.vars' lays the variable. In a bare row this is a premise. The card (YtnifihnlmanpkaaDoorCards.lean) ties it to the program's text. -/
def laid_unicode_utf8_acceptRanges {H : Type} : DataW H := .agg [.agg [.lit (.int .u8 128), .lit (.int .u8 191)], .agg [.lit (.int .u8 160), .lit (.int .u8 191)], .agg [.lit (.int .u8 128), .lit (.int .u8 159)], .agg [.lit (.int .u8 144), .lit (.int .u8 191)], .agg [.lit (.int .u8 128), .lit (.int .u8 143)], .agg [.lit (.int .u8 0), .lit (.int .u8 0)], .agg [.lit (.int .u8 0), .lit (.int .u8 0)], .agg [.lit (.int .u8 0), .lit (.int .u8 0)], .agg [.lit (.int .u8 0), .lit (.int .u8 0)], .agg [.lit (.int .u8 0), .lit (.int .u8 0)], .agg [.lit (.int .u8 0), .lit (.int .u8 0)], .agg [.lit (.int .u8 0), .lit (.int .u8 0)], .agg [.lit (.int .u8 0), .lit (.int .u8 0)], .agg [.lit (.int .u8 0), .lit (.int .u8 0)], .agg [.lit (.int .u8 0), .lit (.int .u8 0)], .agg [.lit (.int .u8 0), .lit (.int .u8 0)]]
/-- One of Go's own tables, pinned by name: the form's constant. -/
def laid_unicode_utf8_first : DataW Unit := Go.Pinned.utf8First

/-- 'legatelaw5.NameBack': WHATEVER THE INPUT: true; the input reads as it did. -/
def nameBackSpec : ChangeSpec := { name := "nameBack", fn := fun _ => fun
  | [d1, d2] => { results := [.lit (.bool true)], args := [d1, d2] }
  | _ => none }
def nameBackRow : OpenClaim := { program := "ytnifihnlmanpkaadoor", sum := "54a1143b4db2b8f1de70f5dc8a4806ec7e5e69b48f0cf9782b2c477dd54856b7", func := "legate/legatelaw5.NameBack", spec := "nameBack", inPlace := ["internal/bytealg.CountString", "internal/bytealg.IndexByteString", "internal/bytealg.IndexString", "internal/abi.NoEscape", "internal/bytealg.MakeNoZero"], unfollowed := true, recurses := true, named := ["unicode/utf8.first", "unicode/utf8.acceptRanges", "internal/bytealg.MaxLen"], apart := false, laid := [("unicode/utf8.acceptRanges", laid_unicode_utf8_acceptRanges), ("unicode/utf8.first", laid_unicode_utf8_first)] }
def NameBackSaid : Prop := nameBackRow.holds Tryd.pinned (OpenSpec.ofChange nameBackSpec)

/-- ITS FALSE NEIGHBOUR: 'it returns false'. Refute it at one input. -/
def nameBackWrong : ChangeSpec := { name := "nameBack", fn := fun _ => fun
  | [d1, d2] => { results := [.lit (.bool false)], args := [d1, d2] }
  | _ => none }
def NameBackWrongFalsely : Prop := nameBackRow.holds Tryd.pinned (OpenSpec.ofChange nameBackWrong)

/-- 'legatelaw5.NameTops': WHATEVER THE INPUT: true; the input reads as it did. -/
def nameTopsSpec : ChangeSpec := { name := "nameTops", fn := fun _ => fun
  | [d1, d2] => { results := [.lit (.bool true)], args := [d1, d2] }
  | _ => none }
def nameTopsRow : OpenClaim := { program := "ytnifihnlmanpkaadoor", sum := "54a1143b4db2b8f1de70f5dc8a4806ec7e5e69b48f0cf9782b2c477dd54856b7", func := "legate/legatelaw5.NameTops", spec := "nameTops", inPlace := ["internal/bytealg.CountString", "internal/bytealg.IndexByteString", "internal/bytealg.IndexString", "internal/abi.NoEscape", "internal/bytealg.MakeNoZero"], unfollowed := true, recurses := true, named := ["unicode/utf8.first", "unicode/utf8.acceptRanges", "internal/bytealg.MaxLen"], apart := false, laid := [("unicode/utf8.acceptRanges", laid_unicode_utf8_acceptRanges), ("unicode/utf8.first", laid_unicode_utf8_first)] }
def NameTopsSaid : Prop := nameTopsRow.holds Tryd.pinned (OpenSpec.ofChange nameTopsSpec)

/-- ITS FALSE NEIGHBOUR: 'it returns false'. Refute it at one input. -/
def nameTopsWrong : ChangeSpec := { name := "nameTops", fn := fun _ => fun
  | [d1, d2] => { results := [.lit (.bool false)], args := [d1, d2] }
  | _ => none }
def NameTopsWrongFalsely : Prop := nameTopsRow.holds Tryd.pinned (OpenSpec.ofChange nameTopsWrong)

/-- 'legatelaw5.NameWay': WHATEVER THE INPUT: true; the input reads as it did. -/
def nameWaySpec : ChangeSpec := { name := "nameWay", fn := fun _ => fun
  | [d1, d2] => { results := [.lit (.bool true)], args := [d1, d2] }
  | _ => none }
def nameWayRow : OpenClaim := { program := "ytnifihnlmanpkaadoor", sum := "54a1143b4db2b8f1de70f5dc8a4806ec7e5e69b48f0cf9782b2c477dd54856b7", func := "legate/legatelaw5.NameWay", spec := "nameWay", inPlace := ["internal/bytealg.CountString", "internal/bytealg.IndexByteString", "internal/bytealg.IndexString", "internal/abi.NoEscape", "internal/bytealg.MakeNoZero"], unfollowed := true, recurses := true, named := ["unicode/utf8.first", "unicode/utf8.acceptRanges", "internal/bytealg.MaxLen"], apart := false, laid := [("unicode/utf8.acceptRanges", laid_unicode_utf8_acceptRanges), ("unicode/utf8.first", laid_unicode_utf8_first)] }
def NameWaySaid : Prop := nameWayRow.holds Tryd.pinned (OpenSpec.ofChange nameWaySpec)

/-- ITS FALSE NEIGHBOUR: 'it returns false'. Refute it at one input. -/
def nameWayWrong : ChangeSpec := { name := "nameWay", fn := fun _ => fun
  | [d1, d2] => { results := [.lit (.bool false)], args := [d1, d2] }
  | _ => none }
def NameWayWrongFalsely : Prop := nameWayRow.holds Tryd.pinned (OpenSpec.ofChange nameWayWrong)

/-- 'legatelaw5.NameCase': WHATEVER THE INPUT: true; the input reads as it did. -/
def nameCaseSpec : ChangeSpec := { name := "nameCase", fn := fun _ => fun
  | [d] => { results := [.lit (.bool true)], args := [d] }
  | _ => none }
def nameCaseRow : OpenClaim := { program := "ytnifihnlmanpkaadoor", sum := "54a1143b4db2b8f1de70f5dc8a4806ec7e5e69b48f0cf9782b2c477dd54856b7", func := "legate/legatelaw5.NameCase", spec := "nameCase", inPlace := ["internal/bytealg.CountString", "internal/bytealg.IndexByteString", "internal/bytealg.IndexString", "internal/abi.NoEscape", "internal/bytealg.MakeNoZero"], unfollowed := true, recurses := true, named := ["unicode/utf8.first", "unicode/utf8.acceptRanges", "internal/bytealg.MaxLen"], apart := false, laid := [("unicode/utf8.acceptRanges", laid_unicode_utf8_acceptRanges), ("unicode/utf8.first", laid_unicode_utf8_first)] }
def NameCaseSaid : Prop := nameCaseRow.holds Tryd.pinned (OpenSpec.ofChange nameCaseSpec)

/-- ITS FALSE NEIGHBOUR: 'it returns false'. Refute it at one input. -/
def nameCaseWrong : ChangeSpec := { name := "nameCase", fn := fun _ => fun
  | [d] => { results := [.lit (.bool false)], args := [d] }
  | _ => none }
def NameCaseWrongFalsely : Prop := nameCaseRow.holds Tryd.pinned (OpenSpec.ofChange nameCaseWrong)

/-- 'legatelaw5.NameUnders': WHATEVER THE INPUT: true; the input reads as it did. -/
def nameUndersSpec : ChangeSpec := { name := "nameUnders", fn := fun _ => fun
  | [d1, d2, d3] => { results := [.lit (.bool true)], args := [d1, d2, d3] }
  | _ => none }
def nameUndersRow : OpenClaim := { program := "ytnifihnlmanpkaadoor", sum := "54a1143b4db2b8f1de70f5dc8a4806ec7e5e69b48f0cf9782b2c477dd54856b7", func := "legate/legatelaw5.NameUnders", spec := "nameUnders", inPlace := ["internal/bytealg.CountString", "internal/bytealg.IndexByteString", "internal/bytealg.IndexString", "internal/abi.NoEscape", "internal/bytealg.MakeNoZero"], unfollowed := true, recurses := true, named := ["unicode/utf8.first", "unicode/utf8.acceptRanges", "internal/bytealg.MaxLen"], apart := false, laid := [("unicode/utf8.acceptRanges", laid_unicode_utf8_acceptRanges), ("unicode/utf8.first", laid_unicode_utf8_first)] }
def NameUndersSaid : Prop := nameUndersRow.holds Tryd.pinned (OpenSpec.ofChange nameUndersSpec)

/-- ITS FALSE NEIGHBOUR: 'it returns false'. Refute it at one input. -/
def nameUndersWrong : ChangeSpec := { name := "nameUnders", fn := fun _ => fun
  | [d1, d2, d3] => { results := [.lit (.bool false)], args := [d1, d2, d3] }
  | _ => none }
def NameUndersWrongFalsely : Prop := nameUndersRow.holds Tryd.pinned (OpenSpec.ofChange nameUndersWrong)

/-- 'legatelaw5.NameLabels': WHATEVER THE INPUT: true; the input reads as it did. -/
def nameLabelsSpec : ChangeSpec := { name := "nameLabels", fn := fun _ => fun
  | [d1, d2, d3] => { results := [.lit (.bool true)], args := [d1, d2, d3] }
  | _ => none }
def nameLabelsRow : OpenClaim := { program := "ytnifihnlmanpkaadoor", sum := "54a1143b4db2b8f1de70f5dc8a4806ec7e5e69b48f0cf9782b2c477dd54856b7", func := "legate/legatelaw5.NameLabels", spec := "nameLabels", inPlace := ["internal/bytealg.CountString", "internal/bytealg.IndexByteString", "internal/bytealg.IndexString", "internal/abi.NoEscape", "internal/bytealg.MakeNoZero"], unfollowed := true, recurses := true, named := ["unicode/utf8.first", "unicode/utf8.acceptRanges", "internal/bytealg.MaxLen"], apart := false, laid := [("unicode/utf8.acceptRanges", laid_unicode_utf8_acceptRanges), ("unicode/utf8.first", laid_unicode_utf8_first)] }
def NameLabelsSaid : Prop := nameLabelsRow.holds Tryd.pinned (OpenSpec.ofChange nameLabelsSpec)

/-- ITS FALSE NEIGHBOUR: 'it returns false'. Refute it at one input. -/
def nameLabelsWrong : ChangeSpec := { name := "nameLabels", fn := fun _ => fun
  | [d1, d2, d3] => { results := [.lit (.bool false)], args := [d1, d2, d3] }
  | _ => none }
def NameLabelsWrongFalsely : Prop := nameLabelsRow.holds Tryd.pinned (OpenSpec.ofChange nameLabelsWrong)

/-- 'legatelaw5.NamePrincs': WHATEVER THE INPUT: true; the input reads as it did. -/
def namePrincsSpec : ChangeSpec := { name := "namePrincs", fn := fun _ => fun
  | [d1, d2] => { results := [.lit (.bool true)], args := [d1, d2] }
  | _ => none }
def namePrincsRow : OpenClaim := { program := "ytnifihnlmanpkaadoor", sum := "54a1143b4db2b8f1de70f5dc8a4806ec7e5e69b48f0cf9782b2c477dd54856b7", func := "legate/legatelaw5.NamePrincs", spec := "namePrincs", inPlace := ["internal/bytealg.CountString", "internal/bytealg.IndexByteString", "internal/bytealg.IndexString", "internal/abi.NoEscape", "internal/bytealg.MakeNoZero"], unfollowed := true, recurses := true, named := ["unicode/utf8.first", "unicode/utf8.acceptRanges", "internal/bytealg.MaxLen"], apart := false, laid := [("unicode/utf8.acceptRanges", laid_unicode_utf8_acceptRanges), ("unicode/utf8.first", laid_unicode_utf8_first)] }
def NamePrincsSaid : Prop := namePrincsRow.holds Tryd.pinned (OpenSpec.ofChange namePrincsSpec)

/-- ITS FALSE NEIGHBOUR: 'it returns false'. Refute it at one input. -/
def namePrincsWrong : ChangeSpec := { name := "namePrincs", fn := fun _ => fun
  | [d1, d2] => { results := [.lit (.bool false)], args := [d1, d2] }
  | _ => none }
def NamePrincsWrongFalsely : Prop := namePrincsRow.holds Tryd.pinned (OpenSpec.ofChange namePrincsWrong)

/-- 'legatelaw5.NameUp': WHATEVER THE INPUT: true; the input reads as it did. -/
def nameUpSpec : ChangeSpec := { name := "nameUp", fn := fun _ => fun
  | [d] => { results := [.lit (.bool true)], args := [d] }
  | _ => none }
def nameUpRow : OpenClaim := { program := "ytnifihnlmanpkaadoor", sum := "54a1143b4db2b8f1de70f5dc8a4806ec7e5e69b48f0cf9782b2c477dd54856b7", func := "legate/legatelaw5.NameUp", spec := "nameUp", inPlace := ["internal/bytealg.CountString", "internal/bytealg.IndexByteString", "internal/bytealg.IndexString", "internal/abi.NoEscape", "internal/bytealg.MakeNoZero"], unfollowed := true, recurses := true, named := ["unicode/utf8.first", "unicode/utf8.acceptRanges", "internal/bytealg.MaxLen"], apart := false, laid := [("unicode/utf8.acceptRanges", laid_unicode_utf8_acceptRanges), ("unicode/utf8.first", laid_unicode_utf8_first)] }
def NameUpSaid : Prop := nameUpRow.holds Tryd.pinned (OpenSpec.ofChange nameUpSpec)

/-- ITS FALSE NEIGHBOUR: 'it returns false'. Refute it at one input. -/
def nameUpWrong : ChangeSpec := { name := "nameUp", fn := fun _ => fun
  | [d] => { results := [.lit (.bool false)], args := [d] }
  | _ => none }
def NameUpWrongFalsely : Prop := nameUpRow.holds Tryd.pinned (OpenSpec.ofChange nameUpWrong)

/-- 'legatelaw5.NameTells': WHATEVER THE INPUT: true; the input reads as it did. -/
def nameTellsSpec : ChangeSpec := { name := "nameTells", fn := fun _ => fun
  | [d1, d2, d3] => { results := [.lit (.bool true)], args := [d1, d2, d3] }
  | _ => none }
def nameTellsRow : OpenClaim := { program := "ytnifihnlmanpkaadoor", sum := "54a1143b4db2b8f1de70f5dc8a4806ec7e5e69b48f0cf9782b2c477dd54856b7", func := "legate/legatelaw5.NameTells", spec := "nameTells", inPlace := ["internal/bytealg.CountString", "internal/bytealg.IndexByteString", "internal/bytealg.IndexString", "internal/abi.NoEscape", "internal/bytealg.MakeNoZero"], unfollowed := true, recurses := true, named := ["unicode/utf8.first", "unicode/utf8.acceptRanges", "internal/bytealg.MaxLen"], apart := false, laid := [("unicode/utf8.acceptRanges", laid_unicode_utf8_acceptRanges), ("unicode/utf8.first", laid_unicode_utf8_first)] }
def NameTellsSaid : Prop := nameTellsRow.holds Tryd.pinned (OpenSpec.ofChange nameTellsSpec)

/-- ITS FALSE NEIGHBOUR: 'it returns false'. Refute it at one input. -/
def nameTellsWrong : ChangeSpec := { name := "nameTells", fn := fun _ => fun
  | [d1, d2, d3] => { results := [.lit (.bool false)], args := [d1, d2, d3] }
  | _ => none }
def NameTellsWrongFalsely : Prop := nameTellsRow.holds Tryd.pinned (OpenSpec.ofChange nameTellsWrong)

/- THE SECOND FORM. 'bulk': how many values and letters a reading holds, each counted each time it is reached (what is shared counts as often as it is met; a slice's spare places count too). A statement '..UptoSaid' is the law's where the arguments, and the package variables that the reading takes, are together of bulk at most 1048576: NARROWER than '..Said'. Prove '..Said' where nothing that the law and all that it calls make is longer than what came in: it says more and counts as full. Else prove '..UptoSaid'. A law counts once. -/
mutual
def uptoBulk {H : Type} : DataW H → Nat
  | .lit (.string bytes) => bytes.length + 1
  | .lit _ => 1
  | .nil => 1
  | .ptr d => uptoBulk d + 1
  | .slice elems spare => uptoBulkAll elems + uptoBulkAll spare + 1
  | .agg parts => uptoBulkAll parts + 1
  | .iface _ d => uptoBulk d + 1
  | .map entries => uptoBulkEntries entries + 1
  | .held _ => 1
def uptoBulkAll {H : Type} : List (DataW H) → Nat
  | [] => 0
  | d :: r => uptoBulk d + uptoBulkAll r
def uptoBulkEntries {H : Type} : List (Lit × DataW H) → Nat
  | [] => 0
  | x :: r => uptoBulkEntry x + uptoBulkEntries r
def uptoBulkEntry {H : Type} : Lit × DataW H → Nat
  | (.string bytes, d) => bytes.length + uptoBulk d + 1
  | (_, d) => uptoBulk d + 1
 end
def uptoSmall : (H : Type) → List (DataW H) → Bool := fun _ ds => decide (uptoBulkAll ds ≤ 1048576)
def OpenSpec.upto (s : _root_.Go.ChangeSpec) : _root_.Go.OpenSpec := { _root_.Go.OpenSpec.ofChange s with cond := some uptoSmall }

/-- 'legatelaw5.NameBack', WHERE WHAT IT READS IS OF BULK AT MOST 1048576: true; the input reads as it did. -/
def nameBackUptoRow : OpenClaim := { program := "ytnifihnlmanpkaadoor", sum := "54a1143b4db2b8f1de70f5dc8a4806ec7e5e69b48f0cf9782b2c477dd54856b7", func := "legate/legatelaw5.NameBack", spec := "nameBack", inPlace := ["internal/bytealg.CountString", "internal/bytealg.IndexByteString", "internal/bytealg.IndexString", "internal/abi.NoEscape", "internal/bytealg.MakeNoZero"], unfollowed := true, recurses := true, named := ["unicode/utf8.first", "unicode/utf8.acceptRanges", "internal/bytealg.MaxLen"], apart := false, laid := [("unicode/utf8.acceptRanges", laid_unicode_utf8_acceptRanges), ("unicode/utf8.first", laid_unicode_utf8_first)], narrowed := true }
def NameBackUptoSaid : Prop := nameBackUptoRow.holds Tryd.pinned (OpenSpec.upto nameBackSpec)

/-- 'legatelaw5.NameTops', WHERE WHAT IT READS IS OF BULK AT MOST 1048576: true; the input reads as it did. -/
def nameTopsUptoRow : OpenClaim := { program := "ytnifihnlmanpkaadoor", sum := "54a1143b4db2b8f1de70f5dc8a4806ec7e5e69b48f0cf9782b2c477dd54856b7", func := "legate/legatelaw5.NameTops", spec := "nameTops", inPlace := ["internal/bytealg.CountString", "internal/bytealg.IndexByteString", "internal/bytealg.IndexString", "internal/abi.NoEscape", "internal/bytealg.MakeNoZero"], unfollowed := true, recurses := true, named := ["unicode/utf8.first", "unicode/utf8.acceptRanges", "internal/bytealg.MaxLen"], apart := false, laid := [("unicode/utf8.acceptRanges", laid_unicode_utf8_acceptRanges), ("unicode/utf8.first", laid_unicode_utf8_first)], narrowed := true }
def NameTopsUptoSaid : Prop := nameTopsUptoRow.holds Tryd.pinned (OpenSpec.upto nameTopsSpec)

/-- 'legatelaw5.NameWay', WHERE WHAT IT READS IS OF BULK AT MOST 1048576: true; the input reads as it did. -/
def nameWayUptoRow : OpenClaim := { program := "ytnifihnlmanpkaadoor", sum := "54a1143b4db2b8f1de70f5dc8a4806ec7e5e69b48f0cf9782b2c477dd54856b7", func := "legate/legatelaw5.NameWay", spec := "nameWay", inPlace := ["internal/bytealg.CountString", "internal/bytealg.IndexByteString", "internal/bytealg.IndexString", "internal/abi.NoEscape", "internal/bytealg.MakeNoZero"], unfollowed := true, recurses := true, named := ["unicode/utf8.first", "unicode/utf8.acceptRanges", "internal/bytealg.MaxLen"], apart := false, laid := [("unicode/utf8.acceptRanges", laid_unicode_utf8_acceptRanges), ("unicode/utf8.first", laid_unicode_utf8_first)], narrowed := true }
def NameWayUptoSaid : Prop := nameWayUptoRow.holds Tryd.pinned (OpenSpec.upto nameWaySpec)

/-- 'legatelaw5.NameCase', WHERE WHAT IT READS IS OF BULK AT MOST 1048576: true; the input reads as it did. -/
def nameCaseUptoRow : OpenClaim := { program := "ytnifihnlmanpkaadoor", sum := "54a1143b4db2b8f1de70f5dc8a4806ec7e5e69b48f0cf9782b2c477dd54856b7", func := "legate/legatelaw5.NameCase", spec := "nameCase", inPlace := ["internal/bytealg.CountString", "internal/bytealg.IndexByteString", "internal/bytealg.IndexString", "internal/abi.NoEscape", "internal/bytealg.MakeNoZero"], unfollowed := true, recurses := true, named := ["unicode/utf8.first", "unicode/utf8.acceptRanges", "internal/bytealg.MaxLen"], apart := false, laid := [("unicode/utf8.acceptRanges", laid_unicode_utf8_acceptRanges), ("unicode/utf8.first", laid_unicode_utf8_first)], narrowed := true }
def NameCaseUptoSaid : Prop := nameCaseUptoRow.holds Tryd.pinned (OpenSpec.upto nameCaseSpec)

/-- 'legatelaw5.NameUnders', WHERE WHAT IT READS IS OF BULK AT MOST 1048576: true; the input reads as it did. -/
def nameUndersUptoRow : OpenClaim := { program := "ytnifihnlmanpkaadoor", sum := "54a1143b4db2b8f1de70f5dc8a4806ec7e5e69b48f0cf9782b2c477dd54856b7", func := "legate/legatelaw5.NameUnders", spec := "nameUnders", inPlace := ["internal/bytealg.CountString", "internal/bytealg.IndexByteString", "internal/bytealg.IndexString", "internal/abi.NoEscape", "internal/bytealg.MakeNoZero"], unfollowed := true, recurses := true, named := ["unicode/utf8.first", "unicode/utf8.acceptRanges", "internal/bytealg.MaxLen"], apart := false, laid := [("unicode/utf8.acceptRanges", laid_unicode_utf8_acceptRanges), ("unicode/utf8.first", laid_unicode_utf8_first)], narrowed := true }
def NameUndersUptoSaid : Prop := nameUndersUptoRow.holds Tryd.pinned (OpenSpec.upto nameUndersSpec)

/-- 'legatelaw5.NameLabels', WHERE WHAT IT READS IS OF BULK AT MOST 1048576: true; the input reads as it did. -/
def nameLabelsUptoRow : OpenClaim := { program := "ytnifihnlmanpkaadoor", sum := "54a1143b4db2b8f1de70f5dc8a4806ec7e5e69b48f0cf9782b2c477dd54856b7", func := "legate/legatelaw5.NameLabels", spec := "nameLabels", inPlace := ["internal/bytealg.CountString", "internal/bytealg.IndexByteString", "internal/bytealg.IndexString", "internal/abi.NoEscape", "internal/bytealg.MakeNoZero"], unfollowed := true, recurses := true, named := ["unicode/utf8.first", "unicode/utf8.acceptRanges", "internal/bytealg.MaxLen"], apart := false, laid := [("unicode/utf8.acceptRanges", laid_unicode_utf8_acceptRanges), ("unicode/utf8.first", laid_unicode_utf8_first)], narrowed := true }
def NameLabelsUptoSaid : Prop := nameLabelsUptoRow.holds Tryd.pinned (OpenSpec.upto nameLabelsSpec)

/-- 'legatelaw5.NamePrincs', WHERE WHAT IT READS IS OF BULK AT MOST 1048576: true; the input reads as it did. -/
def namePrincsUptoRow : OpenClaim := { program := "ytnifihnlmanpkaadoor", sum := "54a1143b4db2b8f1de70f5dc8a4806ec7e5e69b48f0cf9782b2c477dd54856b7", func := "legate/legatelaw5.NamePrincs", spec := "namePrincs", inPlace := ["internal/bytealg.CountString", "internal/bytealg.IndexByteString", "internal/bytealg.IndexString", "internal/abi.NoEscape", "internal/bytealg.MakeNoZero"], unfollowed := true, recurses := true, named := ["unicode/utf8.first", "unicode/utf8.acceptRanges", "internal/bytealg.MaxLen"], apart := false, laid := [("unicode/utf8.acceptRanges", laid_unicode_utf8_acceptRanges), ("unicode/utf8.first", laid_unicode_utf8_first)], narrowed := true }
def NamePrincsUptoSaid : Prop := namePrincsUptoRow.holds Tryd.pinned (OpenSpec.upto namePrincsSpec)

/-- 'legatelaw5.NameUp', WHERE WHAT IT READS IS OF BULK AT MOST 1048576: true; the input reads as it did. -/
def nameUpUptoRow : OpenClaim := { program := "ytnifihnlmanpkaadoor", sum := "54a1143b4db2b8f1de70f5dc8a4806ec7e5e69b48f0cf9782b2c477dd54856b7", func := "legate/legatelaw5.NameUp", spec := "nameUp", inPlace := ["internal/bytealg.CountString", "internal/bytealg.IndexByteString", "internal/bytealg.IndexString", "internal/abi.NoEscape", "internal/bytealg.MakeNoZero"], unfollowed := true, recurses := true, named := ["unicode/utf8.first", "unicode/utf8.acceptRanges", "internal/bytealg.MaxLen"], apart := false, laid := [("unicode/utf8.acceptRanges", laid_unicode_utf8_acceptRanges), ("unicode/utf8.first", laid_unicode_utf8_first)], narrowed := true }
def NameUpUptoSaid : Prop := nameUpUptoRow.holds Tryd.pinned (OpenSpec.upto nameUpSpec)

/-- 'legatelaw5.NameTells', WHERE WHAT IT READS IS OF BULK AT MOST 1048576: true; the input reads as it did. -/
def nameTellsUptoRow : OpenClaim := { program := "ytnifihnlmanpkaadoor", sum := "54a1143b4db2b8f1de70f5dc8a4806ec7e5e69b48f0cf9782b2c477dd54856b7", func := "legate/legatelaw5.NameTells", spec := "nameTells", inPlace := ["internal/bytealg.CountString", "internal/bytealg.IndexByteString", "internal/bytealg.IndexString", "internal/abi.NoEscape", "internal/bytealg.MakeNoZero"], unfollowed := true, recurses := true, named := ["unicode/utf8.first", "unicode/utf8.acceptRanges", "internal/bytealg.MaxLen"], apart := false, laid := [("unicode/utf8.acceptRanges", laid_unicode_utf8_acceptRanges), ("unicode/utf8.first", laid_unicode_utf8_first)], narrowed := true }
def NameTellsUptoSaid : Prop := nameTellsUptoRow.holds Tryd.pinned (OpenSpec.upto nameTellsSpec)

end Rows
end Go.Proofs.YtnifihnlmanpkaaDoor
