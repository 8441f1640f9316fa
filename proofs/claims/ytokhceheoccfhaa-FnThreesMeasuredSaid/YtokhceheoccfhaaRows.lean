/-
  No cell of these rows narrows 'for every input' (looked for: loops, veiled, ifaces, maps, wideKeys, modest, calm, conditions, laid).
  DERIVED. THE GIVEN ROWS OF THIS SEAT. 12 by the template 'for every input the law returns true; each argument reads behind the call as it read before'; 0 by the template 'total and deterministic' (their statements: YtokhceheoccfhaaTotals.lean).
  GIVEN WITH THE SEED: the statements are not yours to turn. If you find one false, say at which input.
  Laid BY PROGRAM, IN A SANDBOX (cutbox-rows.mjs): the forced cells as the released guide's own fill.sh prints them over the translation dcf4dd98559f2397… (all of the seat's roots in one cut). By AI agents, Wed Nov 11 2026. No macro, syntax, notation, axiom, sorry.
-/
import Derived.Test.YtokhceheoccfhaaChecked
import GoSem.Claim
import GoSem.ClaimJoined
import GoSem.ClaimMapViews
import Derived.JoinedTies
import Derived.KernelRfl
namespace Go.Proofs.Ytokhceheoccfhaa
/- THE CELL 'sum', in the pinned program and in every row, IS THE sha256 OF THE DUMP (.gsa) THAT YtokhceheoccfhaaProg.lean LOADS. Nothing in Lean hashes anything: it is a label: what it is worth is what the hold of that sum in a sandbox is worth. -/
noncomputable def Try.pinned : Pinned := { name := "ytokhceheoccfhaa", sum := "dcf4dd98559f2397a48a050ce8b0d40d3435635d02683adf1623d54ca92dc348", checked := Try.checked }
namespace Rows
def none {H : Type} : Left H := { results := [], args := [] }

/-- 'laws.FnThreesParted': WHATEVER THE INPUT: true; the input reads as it did. -/
def fnThreesPartedSpec : ChangeSpec := { name := "fnThreesParted", fn := fun _ => fun
  | [d1, d2] => { results := [.lit (.bool true)], args := [d1, d2] }
  | _ => none }
def fnThreesPartedRow : OpenClaim := { program := "ytokhceheoccfhaa", sum := "dcf4dd98559f2397a48a050ce8b0d40d3435635d02683adf1623d54ca92dc348", func := "loop.example/g01259/laws.FnThreesParted", spec := "fnThreesParted", unfollowed := true, recurses := true, apart := false }
def FnThreesPartedSaid : Prop := fnThreesPartedRow.holds Try.pinned (OpenSpec.ofChange fnThreesPartedSpec)

/-- ITS FALSE NEIGHBOUR: 'it returns false'. Refute it at one input. -/
def fnThreesPartedWrong : ChangeSpec := { name := "fnThreesParted", fn := fun _ => fun
  | [d1, d2] => { results := [.lit (.bool false)], args := [d1, d2] }
  | _ => none }
def FnThreesPartedWrongFalsely : Prop := fnThreesPartedRow.holds Try.pinned (OpenSpec.ofChange fnThreesPartedWrong)

/-- 'laws.FnExactAreSameAround': WHATEVER THE INPUT: true; the input reads as it did. -/
def fnExactAreSameAroundSpec : ChangeSpec := { name := "fnExactAreSameAround", fn := fun _ => fun
  | [d1, d2] => { results := [.lit (.bool true)], args := [d1, d2] }
  | _ => none }
def fnExactAreSameAroundRow : OpenClaim := { program := "ytokhceheoccfhaa", sum := "dcf4dd98559f2397a48a050ce8b0d40d3435635d02683adf1623d54ca92dc348", func := "loop.example/g01259/laws.FnExactAreSameAround", spec := "fnExactAreSameAround", unfollowed := true, recurses := true, apart := false }
def FnExactAreSameAroundSaid : Prop := fnExactAreSameAroundRow.holds Try.pinned (OpenSpec.ofChange fnExactAreSameAroundSpec)

/-- ITS FALSE NEIGHBOUR: 'it returns false'. Refute it at one input. -/
def fnExactAreSameAroundWrong : ChangeSpec := { name := "fnExactAreSameAround", fn := fun _ => fun
  | [d1, d2] => { results := [.lit (.bool false)], args := [d1, d2] }
  | _ => none }
def FnExactAreSameAroundWrongFalsely : Prop := fnExactAreSameAroundRow.holds Try.pinned (OpenSpec.ofChange fnExactAreSameAroundWrong)

/-- 'laws.FnExactIsOwnDual': WHATEVER THE INPUT: true; the input reads as it did. -/
def fnExactIsOwnDualSpec : ChangeSpec := { name := "fnExactIsOwnDual", fn := fun _ => fun
  | [d] => { results := [.lit (.bool true)], args := [d] }
  | _ => none }
def fnExactIsOwnDualRow : OpenClaim := { program := "ytokhceheoccfhaa", sum := "dcf4dd98559f2397a48a050ce8b0d40d3435635d02683adf1623d54ca92dc348", func := "loop.example/g01259/laws.FnExactIsOwnDual", spec := "fnExactIsOwnDual", unfollowed := true, recurses := true, apart := false }
def FnExactIsOwnDualSaid : Prop := fnExactIsOwnDualRow.holds Try.pinned (OpenSpec.ofChange fnExactIsOwnDualSpec)

/-- ITS FALSE NEIGHBOUR: 'it returns false'. Refute it at one input. -/
def fnExactIsOwnDualWrong : ChangeSpec := { name := "fnExactIsOwnDual", fn := fun _ => fun
  | [d] => { results := [.lit (.bool false)], args := [d] }
  | _ => none }
def FnExactIsOwnDualWrongFalsely : Prop := fnExactIsOwnDualRow.holds Try.pinned (OpenSpec.ofChange fnExactIsOwnDualWrong)

/-- 'laws.FnPickHolds': WHATEVER THE INPUT: true; the input reads as it did. -/
def fnPickHoldsSpec : ChangeSpec := { name := "fnPickHolds", fn := fun _ => fun
  | [d1, d2] => { results := [.lit (.bool true)], args := [d1, d2] }
  | _ => none }
def fnPickHoldsRow : OpenClaim := { program := "ytokhceheoccfhaa", sum := "dcf4dd98559f2397a48a050ce8b0d40d3435635d02683adf1623d54ca92dc348", func := "loop.example/g01259/laws.FnPickHolds", spec := "fnPickHolds", unfollowed := true, recurses := true, apart := false }
def FnPickHoldsSaid : Prop := fnPickHoldsRow.holds Try.pinned (OpenSpec.ofChange fnPickHoldsSpec)

/-- ITS FALSE NEIGHBOUR: 'it returns false'. Refute it at one input. -/
def fnPickHoldsWrong : ChangeSpec := { name := "fnPickHolds", fn := fun _ => fun
  | [d1, d2] => { results := [.lit (.bool false)], args := [d1, d2] }
  | _ => none }
def FnPickHoldsWrongFalsely : Prop := fnPickHoldsRow.holds Try.pinned (OpenSpec.ofChange fnPickHoldsWrong)

/-- 'laws.FnMovesKeep': WHATEVER THE INPUT: true; the input reads as it did. -/
def fnMovesKeepSpec : ChangeSpec := { name := "fnMovesKeep", fn := fun _ => fun
  | [d1, d2] => { results := [.lit (.bool true)], args := [d1, d2] }
  | _ => none }
def fnMovesKeepRow : OpenClaim := { program := "ytokhceheoccfhaa", sum := "dcf4dd98559f2397a48a050ce8b0d40d3435635d02683adf1623d54ca92dc348", func := "loop.example/g01259/laws.FnMovesKeep", spec := "fnMovesKeep", unfollowed := true, recurses := true, apart := false }
def FnMovesKeepSaid : Prop := fnMovesKeepRow.holds Try.pinned (OpenSpec.ofChange fnMovesKeepSpec)

/-- ITS FALSE NEIGHBOUR: 'it returns false'. Refute it at one input. -/
def fnMovesKeepWrong : ChangeSpec := { name := "fnMovesKeep", fn := fun _ => fun
  | [d1, d2] => { results := [.lit (.bool false)], args := [d1, d2] }
  | _ => none }
def FnMovesKeepWrongFalsely : Prop := fnMovesKeepRow.holds Try.pinned (OpenSpec.ofChange fnMovesKeepWrong)

/-- 'laws.FnThreesMeasured': WHATEVER THE INPUT: true; the input reads as it did. -/
def fnThreesMeasuredSpec : ChangeSpec := { name := "fnThreesMeasured", fn := fun _ => fun
  | [d1, d2] => { results := [.lit (.bool true)], args := [d1, d2] }
  | _ => none }
def fnThreesMeasuredRow : OpenClaim := { program := "ytokhceheoccfhaa", sum := "dcf4dd98559f2397a48a050ce8b0d40d3435635d02683adf1623d54ca92dc348", func := "loop.example/g01259/laws.FnThreesMeasured", spec := "fnThreesMeasured", unfollowed := true, recurses := true, apart := false }
def FnThreesMeasuredSaid : Prop := fnThreesMeasuredRow.holds Try.pinned (OpenSpec.ofChange fnThreesMeasuredSpec)

/-- ITS FALSE NEIGHBOUR: 'it returns false'. Refute it at one input. -/
def fnThreesMeasuredWrong : ChangeSpec := { name := "fnThreesMeasured", fn := fun _ => fun
  | [d1, d2] => { results := [.lit (.bool false)], args := [d1, d2] }
  | _ => none }
def FnThreesMeasuredWrongFalsely : Prop := fnThreesMeasuredRow.holds Try.pinned (OpenSpec.ofChange fnThreesMeasuredWrong)

/-- 'laws.FnExactTwiceBand': WHATEVER THE INPUT: true; the input reads as it did. -/
def fnExactTwiceBandSpec : ChangeSpec := { name := "fnExactTwiceBand", fn := fun _ => fun
  | [d] => { results := [.lit (.bool true)], args := [d] }
  | _ => none }
def fnExactTwiceBandRow : OpenClaim := { program := "ytokhceheoccfhaa", sum := "dcf4dd98559f2397a48a050ce8b0d40d3435635d02683adf1623d54ca92dc348", func := "loop.example/g01259/laws.FnExactTwiceBand", spec := "fnExactTwiceBand", unfollowed := true, recurses := true, apart := false }
def FnExactTwiceBandSaid : Prop := fnExactTwiceBandRow.holds Try.pinned (OpenSpec.ofChange fnExactTwiceBandSpec)

/-- ITS FALSE NEIGHBOUR: 'it returns false'. Refute it at one input. -/
def fnExactTwiceBandWrong : ChangeSpec := { name := "fnExactTwiceBand", fn := fun _ => fun
  | [d] => { results := [.lit (.bool false)], args := [d] }
  | _ => none }
def FnExactTwiceBandWrongFalsely : Prop := fnExactTwiceBandRow.holds Try.pinned (OpenSpec.ofChange fnExactTwiceBandWrong)

/-- 'laws.FnExactFarthestCorners': WHATEVER THE INPUT: true; the input reads as it did. -/
def fnExactFarthestCornersSpec : ChangeSpec := { name := "fnExactFarthestCorners", fn := fun _ => fun
  | [d] => { results := [.lit (.bool true)], args := [d] }
  | _ => none }
def fnExactFarthestCornersRow : OpenClaim := { program := "ytokhceheoccfhaa", sum := "dcf4dd98559f2397a48a050ce8b0d40d3435635d02683adf1623d54ca92dc348", func := "loop.example/g01259/laws.FnExactFarthestCorners", spec := "fnExactFarthestCorners", unfollowed := true, recurses := true, apart := false }
def FnExactFarthestCornersSaid : Prop := fnExactFarthestCornersRow.holds Try.pinned (OpenSpec.ofChange fnExactFarthestCornersSpec)

/-- ITS FALSE NEIGHBOUR: 'it returns false'. Refute it at one input. -/
def fnExactFarthestCornersWrong : ChangeSpec := { name := "fnExactFarthestCorners", fn := fun _ => fun
  | [d] => { results := [.lit (.bool false)], args := [d] }
  | _ => none }
def FnExactFarthestCornersWrongFalsely : Prop := fnExactFarthestCornersRow.holds Try.pinned (OpenSpec.ofChange fnExactFarthestCornersWrong)

/-- 'laws.FnExactFarSquare': WHATEVER THE INPUT: true; the input reads as it did. -/
def fnExactFarSquareSpec : ChangeSpec := { name := "fnExactFarSquare", fn := fun _ => fun
  | [d] => { results := [.lit (.bool true)], args := [d] }
  | _ => none }
def fnExactFarSquareRow : OpenClaim := { program := "ytokhceheoccfhaa", sum := "dcf4dd98559f2397a48a050ce8b0d40d3435635d02683adf1623d54ca92dc348", func := "loop.example/g01259/laws.FnExactFarSquare", spec := "fnExactFarSquare", unfollowed := true, recurses := true, apart := false }
def FnExactFarSquareSaid : Prop := fnExactFarSquareRow.holds Try.pinned (OpenSpec.ofChange fnExactFarSquareSpec)

/-- ITS FALSE NEIGHBOUR: 'it returns false'. Refute it at one input. -/
def fnExactFarSquareWrong : ChangeSpec := { name := "fnExactFarSquare", fn := fun _ => fun
  | [d] => { results := [.lit (.bool false)], args := [d] }
  | _ => none }
def FnExactFarSquareWrongFalsely : Prop := fnExactFarSquareRow.holds Try.pinned (OpenSpec.ofChange fnExactFarSquareWrong)

/-- 'laws.FnExactInBand': WHATEVER THE INPUT: true; the input reads as it did. -/
def fnExactInBandSpec : ChangeSpec := { name := "fnExactInBand", fn := fun _ => fun
  | [d1, d2] => { results := [.lit (.bool true)], args := [d1, d2] }
  | _ => none }
def fnExactInBandRow : OpenClaim := { program := "ytokhceheoccfhaa", sum := "dcf4dd98559f2397a48a050ce8b0d40d3435635d02683adf1623d54ca92dc348", func := "loop.example/g01259/laws.FnExactInBand", spec := "fnExactInBand", unfollowed := true, recurses := true, apart := false }
def FnExactInBandSaid : Prop := fnExactInBandRow.holds Try.pinned (OpenSpec.ofChange fnExactInBandSpec)

/-- ITS FALSE NEIGHBOUR: 'it returns false'. Refute it at one input. -/
def fnExactInBandWrong : ChangeSpec := { name := "fnExactInBand", fn := fun _ => fun
  | [d1, d2] => { results := [.lit (.bool false)], args := [d1, d2] }
  | _ => none }
def FnExactInBandWrongFalsely : Prop := fnExactInBandRow.holds Try.pinned (OpenSpec.ofChange fnExactInBandWrong)

/-- 'laws.FnExactSupportOf': WHATEVER THE INPUT: true; the input reads as it did. -/
def fnExactSupportOfSpec : ChangeSpec := { name := "fnExactSupportOf", fn := fun _ => fun
  | [d1, d2, d3] => { results := [.lit (.bool true)], args := [d1, d2, d3] }
  | _ => none }
def fnExactSupportOfRow : OpenClaim := { program := "ytokhceheoccfhaa", sum := "dcf4dd98559f2397a48a050ce8b0d40d3435635d02683adf1623d54ca92dc348", func := "loop.example/g01259/laws.FnExactSupportOf", spec := "fnExactSupportOf", unfollowed := true, recurses := true, apart := false }
def FnExactSupportOfSaid : Prop := fnExactSupportOfRow.holds Try.pinned (OpenSpec.ofChange fnExactSupportOfSpec)

/-- ITS FALSE NEIGHBOUR: 'it returns false'. Refute it at one input. -/
def fnExactSupportOfWrong : ChangeSpec := { name := "fnExactSupportOf", fn := fun _ => fun
  | [d1, d2, d3] => { results := [.lit (.bool false)], args := [d1, d2, d3] }
  | _ => none }
def FnExactSupportOfWrongFalsely : Prop := fnExactSupportOfRow.holds Try.pinned (OpenSpec.ofChange fnExactSupportOfWrong)

/-- 'laws.FnExactCountInBand': WHATEVER THE INPUT: true; the input reads as it did. -/
def fnExactCountInBandSpec : ChangeSpec := { name := "fnExactCountInBand", fn := fun _ => fun
  | [d] => { results := [.lit (.bool true)], args := [d] }
  | _ => none }
def fnExactCountInBandRow : OpenClaim := { program := "ytokhceheoccfhaa", sum := "dcf4dd98559f2397a48a050ce8b0d40d3435635d02683adf1623d54ca92dc348", func := "loop.example/g01259/laws.FnExactCountInBand", spec := "fnExactCountInBand", unfollowed := true, recurses := true, apart := false }
def FnExactCountInBandSaid : Prop := fnExactCountInBandRow.holds Try.pinned (OpenSpec.ofChange fnExactCountInBandSpec)

/-- ITS FALSE NEIGHBOUR: 'it returns false'. Refute it at one input. -/
def fnExactCountInBandWrong : ChangeSpec := { name := "fnExactCountInBand", fn := fun _ => fun
  | [d] => { results := [.lit (.bool false)], args := [d] }
  | _ => none }
def FnExactCountInBandWrongFalsely : Prop := fnExactCountInBandRow.holds Try.pinned (OpenSpec.ofChange fnExactCountInBandWrong)

/- THE SECOND FORM. 'bulk': how many values and letters a reading holds, each counted each time it is reached (what is shared counts as often as it is met; a slice's spare places count too). A statement '..UptoSaid' is the law's where the arguments, and the package variables that the reading takes, are together of bulk at most 1048576: NARROWER than '..Said'. Prove '..Said' where nothing that the law and all that it calls make is longer than what came in: it says more and counts as full. Else prove '..UptoSaid'. A law counts once. -/
mutual
def uptoBulk {H : Type} : DataW H → Nat
  | .lit (.string bytes) => bytes.length + 1
  | .lit _ => 1
  | .nil => 1
  | .ptr d => uptoBulk d + 1
  | .slice elems spare => uptoBulkAll elems + uptoBulkAll spare + 1
  | .agg parts => uptoBulkAll parts + 1
  | .iface _ d => uptoBulk d + 1
  | .map entries => uptoBulkEntries entries + 1
  | .held _ => 1
def uptoBulkAll {H : Type} : List (DataW H) → Nat
  | [] => 0
  | d :: r => uptoBulk d + uptoBulkAll r
def uptoBulkEntries {H : Type} : List (Lit × DataW H) → Nat
  | [] => 0
  | x :: r => uptoBulkEntry x + uptoBulkEntries r
def uptoBulkEntry {H : Type} : Lit × DataW H → Nat
  | (.string bytes, d) => bytes.length + uptoBulk d + 1
  | (_, d) => uptoBulk d + 1
 end
def uptoSmall : (H : Type) → List (DataW H) → Bool := fun _ ds => decide (uptoBulkAll ds ≤ 1048576)
def OpenSpec.upto (s : _root_.Go.ChangeSpec) : _root_.Go.OpenSpec := { _root_.Go.OpenSpec.ofChange s with cond := some uptoSmall }

/-- 'laws.FnThreesParted', WHERE WHAT IT READS IS OF BULK AT MOST 1048576: true; the input reads as it did. -/
def fnThreesPartedUptoRow : OpenClaim := { program := "ytokhceheoccfhaa", sum := "dcf4dd98559f2397a48a050ce8b0d40d3435635d02683adf1623d54ca92dc348", func := "loop.example/g01259/laws.FnThreesParted", spec := "fnThreesParted", unfollowed := true, recurses := true, apart := false, narrowed := true }
def FnThreesPartedUptoSaid : Prop := fnThreesPartedUptoRow.holds Try.pinned (OpenSpec.upto fnThreesPartedSpec)

/-- 'laws.FnExactAreSameAround', WHERE WHAT IT READS IS OF BULK AT MOST 1048576: true; the input reads as it did. -/
def fnExactAreSameAroundUptoRow : OpenClaim := { program := "ytokhceheoccfhaa", sum := "dcf4dd98559f2397a48a050ce8b0d40d3435635d02683adf1623d54ca92dc348", func := "loop.example/g01259/laws.FnExactAreSameAround", spec := "fnExactAreSameAround", unfollowed := true, recurses := true, apart := false, narrowed := true }
def FnExactAreSameAroundUptoSaid : Prop := fnExactAreSameAroundUptoRow.holds Try.pinned (OpenSpec.upto fnExactAreSameAroundSpec)

/-- 'laws.FnExactIsOwnDual', WHERE WHAT IT READS IS OF BULK AT MOST 1048576: true; the input reads as it did. -/
def fnExactIsOwnDualUptoRow : OpenClaim := { program := "ytokhceheoccfhaa", sum := "dcf4dd98559f2397a48a050ce8b0d40d3435635d02683adf1623d54ca92dc348", func := "loop.example/g01259/laws.FnExactIsOwnDual", spec := "fnExactIsOwnDual", unfollowed := true, recurses := true, apart := false, narrowed := true }
def FnExactIsOwnDualUptoSaid : Prop := fnExactIsOwnDualUptoRow.holds Try.pinned (OpenSpec.upto fnExactIsOwnDualSpec)

/-- 'laws.FnPickHolds', WHERE WHAT IT READS IS OF BULK AT MOST 1048576: true; the input reads as it did. -/
def fnPickHoldsUptoRow : OpenClaim := { program := "ytokhceheoccfhaa", sum := "dcf4dd98559f2397a48a050ce8b0d40d3435635d02683adf1623d54ca92dc348", func := "loop.example/g01259/laws.FnPickHolds", spec := "fnPickHolds", unfollowed := true, recurses := true, apart := false, narrowed := true }
def FnPickHoldsUptoSaid : Prop := fnPickHoldsUptoRow.holds Try.pinned (OpenSpec.upto fnPickHoldsSpec)

/-- 'laws.FnMovesKeep', WHERE WHAT IT READS IS OF BULK AT MOST 1048576: true; the input reads as it did. -/
def fnMovesKeepUptoRow : OpenClaim := { program := "ytokhceheoccfhaa", sum := "dcf4dd98559f2397a48a050ce8b0d40d3435635d02683adf1623d54ca92dc348", func := "loop.example/g01259/laws.FnMovesKeep", spec := "fnMovesKeep", unfollowed := true, recurses := true, apart := false, narrowed := true }
def FnMovesKeepUptoSaid : Prop := fnMovesKeepUptoRow.holds Try.pinned (OpenSpec.upto fnMovesKeepSpec)

/-- 'laws.FnThreesMeasured', WHERE WHAT IT READS IS OF BULK AT MOST 1048576: true; the input reads as it did. -/
def fnThreesMeasuredUptoRow : OpenClaim := { program := "ytokhceheoccfhaa", sum := "dcf4dd98559f2397a48a050ce8b0d40d3435635d02683adf1623d54ca92dc348", func := "loop.example/g01259/laws.FnThreesMeasured", spec := "fnThreesMeasured", unfollowed := true, recurses := true, apart := false, narrowed := true }
def FnThreesMeasuredUptoSaid : Prop := fnThreesMeasuredUptoRow.holds Try.pinned (OpenSpec.upto fnThreesMeasuredSpec)

/-- 'laws.FnExactTwiceBand', WHERE WHAT IT READS IS OF BULK AT MOST 1048576: true; the input reads as it did. -/
def fnExactTwiceBandUptoRow : OpenClaim := { program := "ytokhceheoccfhaa", sum := "dcf4dd98559f2397a48a050ce8b0d40d3435635d02683adf1623d54ca92dc348", func := "loop.example/g01259/laws.FnExactTwiceBand", spec := "fnExactTwiceBand", unfollowed := true, recurses := true, apart := false, narrowed := true }
def FnExactTwiceBandUptoSaid : Prop := fnExactTwiceBandUptoRow.holds Try.pinned (OpenSpec.upto fnExactTwiceBandSpec)

/-- 'laws.FnExactFarthestCorners', WHERE WHAT IT READS IS OF BULK AT MOST 1048576: true; the input reads as it did. -/
def fnExactFarthestCornersUptoRow : OpenClaim := { program := "ytokhceheoccfhaa", sum := "dcf4dd98559f2397a48a050ce8b0d40d3435635d02683adf1623d54ca92dc348", func := "loop.example/g01259/laws.FnExactFarthestCorners", spec := "fnExactFarthestCorners", unfollowed := true, recurses := true, apart := false, narrowed := true }
def FnExactFarthestCornersUptoSaid : Prop := fnExactFarthestCornersUptoRow.holds Try.pinned (OpenSpec.upto fnExactFarthestCornersSpec)

/-- 'laws.FnExactFarSquare', WHERE WHAT IT READS IS OF BULK AT MOST 1048576: true; the input reads as it did. -/
def fnExactFarSquareUptoRow : OpenClaim := { program := "ytokhceheoccfhaa", sum := "dcf4dd98559f2397a48a050ce8b0d40d3435635d02683adf1623d54ca92dc348", func := "loop.example/g01259/laws.FnExactFarSquare", spec := "fnExactFarSquare", unfollowed := true, recurses := true, apart := false, narrowed := true }
def FnExactFarSquareUptoSaid : Prop := fnExactFarSquareUptoRow.holds Try.pinned (OpenSpec.upto fnExactFarSquareSpec)

/-- 'laws.FnExactInBand', WHERE WHAT IT READS IS OF BULK AT MOST 1048576: true; the input reads as it did. -/
def fnExactInBandUptoRow : OpenClaim := { program := "ytokhceheoccfhaa", sum := "dcf4dd98559f2397a48a050ce8b0d40d3435635d02683adf1623d54ca92dc348", func := "loop.example/g01259/laws.FnExactInBand", spec := "fnExactInBand", unfollowed := true, recurses := true, apart := false, narrowed := true }
def FnExactInBandUptoSaid : Prop := fnExactInBandUptoRow.holds Try.pinned (OpenSpec.upto fnExactInBandSpec)

/-- 'laws.FnExactSupportOf', WHERE WHAT IT READS IS OF BULK AT MOST 1048576: true; the input reads as it did. -/
def fnExactSupportOfUptoRow : OpenClaim := { program := "ytokhceheoccfhaa", sum := "dcf4dd98559f2397a48a050ce8b0d40d3435635d02683adf1623d54ca92dc348", func := "loop.example/g01259/laws.FnExactSupportOf", spec := "fnExactSupportOf", unfollowed := true, recurses := true, apart := false, narrowed := true }
def FnExactSupportOfUptoSaid : Prop := fnExactSupportOfUptoRow.holds Try.pinned (OpenSpec.upto fnExactSupportOfSpec)

/-- 'laws.FnExactCountInBand', WHERE WHAT IT READS IS OF BULK AT MOST 1048576: true; the input reads as it did. -/
def fnExactCountInBandUptoRow : OpenClaim := { program := "ytokhceheoccfhaa", sum := "dcf4dd98559f2397a48a050ce8b0d40d3435635d02683adf1623d54ca92dc348", func := "loop.example/g01259/laws.FnExactCountInBand", spec := "fnExactCountInBand", unfollowed := true, recurses := true, apart := false, narrowed := true }
def FnExactCountInBandUptoSaid : Prop := fnExactCountInBandUptoRow.holds Try.pinned (OpenSpec.upto fnExactCountInBandSpec)

end Rows
end Go.Proofs.Ytokhceheoccfhaa
