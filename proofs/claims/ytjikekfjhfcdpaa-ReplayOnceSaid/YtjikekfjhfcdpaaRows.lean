/-
  No cell of these rows narrows 'for every input' (looked for: loops, veiled, ifaces, maps, wideKeys, modest, calm, conditions, laid).
  DERIVED. THE GIVEN ROWS OF THIS SEAT. 7 by the template 'for every input the law returns true; each argument reads behind the call as it read before'; 0 by the template 'total and deterministic' (their statements: YtjikekfjhfcdpaaTotals.lean).
  GIVEN WITH THE SEED: the statements are not yours to turn. If you find one false, say at which input.
  Laid BY PROGRAM, IN A SANDBOX (cutbox-rows.mjs): the forced cells as the released guide's own fill.sh prints them over the translation 86091e74e1e04a3d… (all of the seat's roots in one cut). By AI agents, Wed Nov 11 2026. No macro, syntax, notation, axiom, sorry.
-/
import Derived.Test.YtjikekfjhfcdpaaChecked
import GoSem.Claim
import GoSem.ClaimJoined
import GoSem.ClaimMapViews
import Derived.JoinedTies
import Derived.KernelRfl
namespace Go.Proofs.Ytjikekfjhfcdpaa
/- THE CELL 'sum', in the pinned program and in every row, IS THE sha256 OF THE DUMP (.gsa) THAT YtjikekfjhfcdpaaProg.lean LOADS. Nothing in Lean hashes anything: it is a label: what it is worth is what the hold of that sum in a sandbox is worth. -/
noncomputable def Try.pinned : Pinned := { name := "ytjikekfjhfcdpaa", sum := "86091e74e1e04a3d1d5b4798b2dc3384e6fb03bfd9e36a6ad80b4bdde64f2ceb", checked := Try.checked }
namespace Rows
def none {H : Type} : Left H := { results := [], args := [] }

/-- 'legatelaw13.ReplayFull': WHATEVER THE INPUT: true; the input reads as it did. -/
def replayFullSpec : ChangeSpec := { name := "replayFull", fn := fun _ => fun
  | [d1, d2] => { results := [.lit (.bool true)], args := [d1, d2] }
  | _ => none }
def replayFullRow : OpenClaim := { program := "ytjikekfjhfcdpaa", sum := "86091e74e1e04a3d1d5b4798b2dc3384e6fb03bfd9e36a6ad80b4bdde64f2ceb", func := "legate/legatelaw13.ReplayFull", spec := "replayFull", unfollowed := true, recurses := true, plainKeys := false, apart := false }
def ReplayFullSaid : Prop := replayFullRow.holds Try.pinned (OpenSpec.ofChange replayFullSpec)

/-- ITS FALSE NEIGHBOUR: 'it returns false'. Refute it at one input. -/
def replayFullWrong : ChangeSpec := { name := "replayFull", fn := fun _ => fun
  | [d1, d2] => { results := [.lit (.bool false)], args := [d1, d2] }
  | _ => none }
def ReplayFullWrongFalsely : Prop := replayFullRow.holds Try.pinned (OpenSpec.ofChange replayFullWrong)

/-- 'legatelaw13.ReplayApart': WHATEVER THE INPUT: true; the input reads as it did. -/
def replayApartSpec : ChangeSpec := { name := "replayApart", fn := fun _ => fun
  | [d1, d2] => { results := [.lit (.bool true)], args := [d1, d2] }
  | _ => none }
def replayApartRow : OpenClaim := { program := "ytjikekfjhfcdpaa", sum := "86091e74e1e04a3d1d5b4798b2dc3384e6fb03bfd9e36a6ad80b4bdde64f2ceb", func := "legate/legatelaw13.ReplayApart", spec := "replayApart", unfollowed := true, recurses := true, plainKeys := false, apart := false }
def ReplayApartSaid : Prop := replayApartRow.holds Try.pinned (OpenSpec.ofChange replayApartSpec)

/-- ITS FALSE NEIGHBOUR: 'it returns false'. Refute it at one input. -/
def replayApartWrong : ChangeSpec := { name := "replayApart", fn := fun _ => fun
  | [d1, d2] => { results := [.lit (.bool false)], args := [d1, d2] }
  | _ => none }
def ReplayApartWrongFalsely : Prop := replayApartRow.holds Try.pinned (OpenSpec.ofChange replayApartWrong)

/-- 'legatelaw13.ReplayPlays': WHATEVER THE INPUT: true; the input reads as it did. -/
def replayPlaysSpec : ChangeSpec := { name := "replayPlays", fn := fun _ => fun
  | [d1, d2] => { results := [.lit (.bool true)], args := [d1, d2] }
  | _ => none }
def replayPlaysRow : OpenClaim := { program := "ytjikekfjhfcdpaa", sum := "86091e74e1e04a3d1d5b4798b2dc3384e6fb03bfd9e36a6ad80b4bdde64f2ceb", func := "legate/legatelaw13.ReplayPlays", spec := "replayPlays", unfollowed := true, recurses := true, plainKeys := false, apart := false }
def ReplayPlaysSaid : Prop := replayPlaysRow.holds Try.pinned (OpenSpec.ofChange replayPlaysSpec)

/-- ITS FALSE NEIGHBOUR: 'it returns false'. Refute it at one input. -/
def replayPlaysWrong : ChangeSpec := { name := "replayPlays", fn := fun _ => fun
  | [d1, d2] => { results := [.lit (.bool false)], args := [d1, d2] }
  | _ => none }
def ReplayPlaysWrongFalsely : Prop := replayPlaysRow.holds Try.pinned (OpenSpec.ofChange replayPlaysWrong)

/-- 'legatelaw13.ReplayOnce': WHATEVER THE INPUT: true; the input reads as it did. -/
def replayOnceSpec : ChangeSpec := { name := "replayOnce", fn := fun _ => fun
  | [d1, d2] => { results := [.lit (.bool true)], args := [d1, d2] }
  | _ => none }
def replayOnceRow : OpenClaim := { program := "ytjikekfjhfcdpaa", sum := "86091e74e1e04a3d1d5b4798b2dc3384e6fb03bfd9e36a6ad80b4bdde64f2ceb", func := "legate/legatelaw13.ReplayOnce", spec := "replayOnce", unfollowed := true, recurses := true, plainKeys := false, apart := false }
def ReplayOnceSaid : Prop := replayOnceRow.holds Try.pinned (OpenSpec.ofChange replayOnceSpec)

/-- ITS FALSE NEIGHBOUR: 'it returns false'. Refute it at one input. -/
def replayOnceWrong : ChangeSpec := { name := "replayOnce", fn := fun _ => fun
  | [d1, d2] => { results := [.lit (.bool false)], args := [d1, d2] }
  | _ => none }
def ReplayOnceWrongFalsely : Prop := replayOnceRow.holds Try.pinned (OpenSpec.ofChange replayOnceWrong)

/-- 'legatelaw13.ReplaySkews': WHATEVER THE INPUT: true; the input reads as it did. -/
def replaySkewsSpec : ChangeSpec := { name := "replaySkews", fn := fun _ => fun
  | [d1, d2, d3] => { results := [.lit (.bool true)], args := [d1, d2, d3] }
  | _ => none }
def replaySkewsRow : OpenClaim := { program := "ytjikekfjhfcdpaa", sum := "86091e74e1e04a3d1d5b4798b2dc3384e6fb03bfd9e36a6ad80b4bdde64f2ceb", func := "legate/legatelaw13.ReplaySkews", spec := "replaySkews", unfollowed := true, recurses := true, plainKeys := false, apart := false }
def ReplaySkewsSaid : Prop := replaySkewsRow.holds Try.pinned (OpenSpec.ofChange replaySkewsSpec)

/-- ITS FALSE NEIGHBOUR: 'it returns false'. Refute it at one input. -/
def replaySkewsWrong : ChangeSpec := { name := "replaySkews", fn := fun _ => fun
  | [d1, d2, d3] => { results := [.lit (.bool false)], args := [d1, d2, d3] }
  | _ => none }
def ReplaySkewsWrongFalsely : Prop := replaySkewsRow.holds Try.pinned (OpenSpec.ofChange replaySkewsWrong)

/-- 'legatelaw13.ReplayOfNothing': WHATEVER THE INPUT: true; the input reads as it did. -/
def replayOfNothingSpec : ChangeSpec := { name := "replayOfNothing", fn := fun _ => fun
  | [d1, d2] => { results := [.lit (.bool true)], args := [d1, d2] }
  | _ => none }
def replayOfNothingRow : OpenClaim := { program := "ytjikekfjhfcdpaa", sum := "86091e74e1e04a3d1d5b4798b2dc3384e6fb03bfd9e36a6ad80b4bdde64f2ceb", func := "legate/legatelaw13.ReplayOfNothing", spec := "replayOfNothing", unfollowed := true, recurses := true, plainKeys := false, apart := false }
def ReplayOfNothingSaid : Prop := replayOfNothingRow.holds Try.pinned (OpenSpec.ofChange replayOfNothingSpec)

/-- ITS FALSE NEIGHBOUR: 'it returns false'. Refute it at one input. -/
def replayOfNothingWrong : ChangeSpec := { name := "replayOfNothing", fn := fun _ => fun
  | [d1, d2] => { results := [.lit (.bool false)], args := [d1, d2] }
  | _ => none }
def ReplayOfNothingWrongFalsely : Prop := replayOfNothingRow.holds Try.pinned (OpenSpec.ofChange replayOfNothingWrong)

/-- 'legatelaw13.ReplayForgets': WHATEVER THE INPUT: true; the input reads as it did. -/
def replayForgetsSpec : ChangeSpec := { name := "replayForgets", fn := fun _ => fun
  | [d1, d2, d3] => { results := [.lit (.bool true)], args := [d1, d2, d3] }
  | _ => none }
def replayForgetsRow : OpenClaim := { program := "ytjikekfjhfcdpaa", sum := "86091e74e1e04a3d1d5b4798b2dc3384e6fb03bfd9e36a6ad80b4bdde64f2ceb", func := "legate/legatelaw13.ReplayForgets", spec := "replayForgets", unfollowed := true, recurses := true, plainKeys := false, apart := false }
def ReplayForgetsSaid : Prop := replayForgetsRow.holds Try.pinned (OpenSpec.ofChange replayForgetsSpec)

/-- ITS FALSE NEIGHBOUR: 'it returns false'. Refute it at one input. -/
def replayForgetsWrong : ChangeSpec := { name := "replayForgets", fn := fun _ => fun
  | [d1, d2, d3] => { results := [.lit (.bool false)], args := [d1, d2, d3] }
  | _ => none }
def ReplayForgetsWrongFalsely : Prop := replayForgetsRow.holds Try.pinned (OpenSpec.ofChange replayForgetsWrong)

/- THE SECOND FORM. 'bulk': how many values and letters a reading holds, each counted each time it is reached (what is shared counts as often as it is met; a slice's spare places count too). A statement '..UptoSaid' is the law's where the arguments, and the package variables that the reading takes, are together of bulk at most 1048576: NARROWER than '..Said'. Prove '..Said' where nothing that the law and all that it calls make is longer than what came in: it says more and counts as full. Else prove '..UptoSaid'. A law counts once. -/
mutual
def uptoBulk {H : Type} : DataW H → Nat
  | .lit (.string bytes) => bytes.length + 1
  | .lit _ => 1
  | .nil => 1
  | .ptr d => uptoBulk d + 1
  | .slice elems spare => uptoBulkAll elems + uptoBulkAll spare + 1
  | .agg parts => uptoBulkAll parts + 1
  | .iface _ d => uptoBulk d + 1
  | .map entries => uptoBulkEntries entries + 1
  | .held _ => 1
def uptoBulkAll {H : Type} : List (DataW H) → Nat
  | [] => 0
  | d :: r => uptoBulk d + uptoBulkAll r
def uptoBulkEntries {H : Type} : List (Lit × DataW H) → Nat
  | [] => 0
  | x :: r => uptoBulkEntry x + uptoBulkEntries r
def uptoBulkEntry {H : Type} : Lit × DataW H → Nat
  | (.string bytes, d) => bytes.length + uptoBulk d + 1
  | (_, d) => uptoBulk d + 1
 end
def uptoSmall : (H : Type) → List (DataW H) → Bool := fun _ ds => decide (uptoBulkAll ds ≤ 1048576)
def OpenSpec.upto (s : _root_.Go.ChangeSpec) : _root_.Go.OpenSpec := { _root_.Go.OpenSpec.ofChange s with cond := some uptoSmall }

/-- 'legatelaw13.ReplayFull', WHERE WHAT IT READS IS OF BULK AT MOST 1048576: true; the input reads as it did. -/
def replayFullUptoRow : OpenClaim := { program := "ytjikekfjhfcdpaa", sum := "86091e74e1e04a3d1d5b4798b2dc3384e6fb03bfd9e36a6ad80b4bdde64f2ceb", func := "legate/legatelaw13.ReplayFull", spec := "replayFull", unfollowed := true, recurses := true, plainKeys := false, apart := false, narrowed := true }
def ReplayFullUptoSaid : Prop := replayFullUptoRow.holds Try.pinned (OpenSpec.upto replayFullSpec)

/-- 'legatelaw13.ReplayApart', WHERE WHAT IT READS IS OF BULK AT MOST 1048576: true; the input reads as it did. -/
def replayApartUptoRow : OpenClaim := { program := "ytjikekfjhfcdpaa", sum := "86091e74e1e04a3d1d5b4798b2dc3384e6fb03bfd9e36a6ad80b4bdde64f2ceb", func := "legate/legatelaw13.ReplayApart", spec := "replayApart", unfollowed := true, recurses := true, plainKeys := false, apart := false, narrowed := true }
def ReplayApartUptoSaid : Prop := replayApartUptoRow.holds Try.pinned (OpenSpec.upto replayApartSpec)

/-- 'legatelaw13.ReplayPlays', WHERE WHAT IT READS IS OF BULK AT MOST 1048576: true; the input reads as it did. -/
def replayPlaysUptoRow : OpenClaim := { program := "ytjikekfjhfcdpaa", sum := "86091e74e1e04a3d1d5b4798b2dc3384e6fb03bfd9e36a6ad80b4bdde64f2ceb", func := "legate/legatelaw13.ReplayPlays", spec := "replayPlays", unfollowed := true, recurses := true, plainKeys := false, apart := false, narrowed := true }
def ReplayPlaysUptoSaid : Prop := replayPlaysUptoRow.holds Try.pinned (OpenSpec.upto replayPlaysSpec)

/-- 'legatelaw13.ReplayOnce', WHERE WHAT IT READS IS OF BULK AT MOST 1048576: true; the input reads as it did. -/
def replayOnceUptoRow : OpenClaim := { program := "ytjikekfjhfcdpaa", sum := "86091e74e1e04a3d1d5b4798b2dc3384e6fb03bfd9e36a6ad80b4bdde64f2ceb", func := "legate/legatelaw13.ReplayOnce", spec := "replayOnce", unfollowed := true, recurses := true, plainKeys := false, apart := false, narrowed := true }
def ReplayOnceUptoSaid : Prop := replayOnceUptoRow.holds Try.pinned (OpenSpec.upto replayOnceSpec)

/-- 'legatelaw13.ReplaySkews', WHERE WHAT IT READS IS OF BULK AT MOST 1048576: true; the input reads as it did. -/
def replaySkewsUptoRow : OpenClaim := { program := "ytjikekfjhfcdpaa", sum := "86091e74e1e04a3d1d5b4798b2dc3384e6fb03bfd9e36a6ad80b4bdde64f2ceb", func := "legate/legatelaw13.ReplaySkews", spec := "replaySkews", unfollowed := true, recurses := true, plainKeys := false, apart := false, narrowed := true }
def ReplaySkewsUptoSaid : Prop := replaySkewsUptoRow.holds Try.pinned (OpenSpec.upto replaySkewsSpec)

/-- 'legatelaw13.ReplayOfNothing', WHERE WHAT IT READS IS OF BULK AT MOST 1048576: true; the input reads as it did. -/
def replayOfNothingUptoRow : OpenClaim := { program := "ytjikekfjhfcdpaa", sum := "86091e74e1e04a3d1d5b4798b2dc3384e6fb03bfd9e36a6ad80b4bdde64f2ceb", func := "legate/legatelaw13.ReplayOfNothing", spec := "replayOfNothing", unfollowed := true, recurses := true, plainKeys := false, apart := false, narrowed := true }
def ReplayOfNothingUptoSaid : Prop := replayOfNothingUptoRow.holds Try.pinned (OpenSpec.upto replayOfNothingSpec)

/-- 'legatelaw13.ReplayForgets', WHERE WHAT IT READS IS OF BULK AT MOST 1048576: true; the input reads as it did. -/
def replayForgetsUptoRow : OpenClaim := { program := "ytjikekfjhfcdpaa", sum := "86091e74e1e04a3d1d5b4798b2dc3384e6fb03bfd9e36a6ad80b4bdde64f2ceb", func := "legate/legatelaw13.ReplayForgets", spec := "replayForgets", unfollowed := true, recurses := true, plainKeys := false, apart := false, narrowed := true }
def ReplayForgetsUptoSaid : Prop := replayForgetsUptoRow.holds Try.pinned (OpenSpec.upto replayForgetsSpec)

end Rows
end Go.Proofs.Ytjikekfjhfcdpaa
