/-
  No cell of these rows narrows 'for every input' (looked for: loops, veiled, ifaces, maps, wideKeys, modest, calm, conditions, laid).
  DERIVED. THE GIVEN ROWS OF THIS SEAT. 12 by the template 'for every input the law returns true; each argument reads behind the call as it read before'; 0 by the template 'total and deterministic' (their statements: YtnhlmmnaanallaaTotals.lean).
  GIVEN WITH THE SEED: the statements are not yours to turn. If you find one false, say at which input.
  Laid BY PROGRAM, IN A SANDBOX (cutbox-rows.mjs): the forced cells as the released guide's own fill.sh prints them over the translation 264557e0d2aff6aa… (all of the seat's roots in one cut). By AI agents, Wed Nov 11 2026. No macro, syntax, notation, axiom, sorry.
-/
import Derived.Test.YtnhlmmnaanallaaChecked
import GoSem.Claim
import GoSem.ClaimJoined
import GoSem.ClaimMapViews
import Derived.JoinedTies
import Derived.KernelRfl
namespace Go.Proofs.Ytnhlmmnaanallaa
/- THE CELL 'sum', in the pinned program and in every row, IS THE sha256 OF THE DUMP (.gsa) THAT YtnhlmmnaanallaaProg.lean LOADS. Nothing in Lean hashes anything: it is a label: what it is worth is what the hold of that sum in a sandbox is worth. -/
noncomputable def Try.pinned : Pinned := { name := "ytnhlmmnaanallaa", sum := "264557e0d2aff6aad2057be5e9bba573382eafe6db39de6bb1297f4fada0d0ce", checked := Try.checked }
namespace Rows
def none {H : Type} : Left H := { results := [], args := [] }

/-- 'laws.FnExactCountDirections': WHATEVER THE INPUT: true; the input reads as it did. -/
def fnExactCountDirectionsSpec : ChangeSpec := { name := "fnExactCountDirections", fn := fun _ => fun
  | [d1, d2] => { results := [.lit (.bool true)], args := [d1, d2] }
  | _ => none }
def fnExactCountDirectionsRow : OpenClaim := { program := "ytnhlmmnaanallaa", sum := "264557e0d2aff6aad2057be5e9bba573382eafe6db39de6bb1297f4fada0d0ce", func := "loop.example/g01259/laws.FnExactCountDirections", spec := "fnExactCountDirections", unfollowed := true, recurses := true, apart := false }
def FnExactCountDirectionsSaid : Prop := fnExactCountDirectionsRow.holds Try.pinned (OpenSpec.ofChange fnExactCountDirectionsSpec)

/-- ITS FALSE NEIGHBOUR: 'it returns false'. Refute it at one input. -/
def fnExactCountDirectionsWrong : ChangeSpec := { name := "fnExactCountDirections", fn := fun _ => fun
  | [d1, d2] => { results := [.lit (.bool false)], args := [d1, d2] }
  | _ => none }
def FnExactCountDirectionsWrongFalsely : Prop := fnExactCountDirectionsRow.holds Try.pinned (OpenSpec.ofChange fnExactCountDirectionsWrong)

/-- 'laws.FnExactTangentsFrom': WHATEVER THE INPUT: true; the input reads as it did. -/
def fnExactTangentsFromSpec : ChangeSpec := { name := "fnExactTangentsFrom", fn := fun _ => fun
  | [d1, d2] => { results := [.lit (.bool true)], args := [d1, d2] }
  | _ => none }
def fnExactTangentsFromRow : OpenClaim := { program := "ytnhlmmnaanallaa", sum := "264557e0d2aff6aad2057be5e9bba573382eafe6db39de6bb1297f4fada0d0ce", func := "loop.example/g01259/laws.FnExactTangentsFrom", spec := "fnExactTangentsFrom", unfollowed := true, recurses := true, apart := false }
def FnExactTangentsFromSaid : Prop := fnExactTangentsFromRow.holds Try.pinned (OpenSpec.ofChange fnExactTangentsFromSpec)

/-- ITS FALSE NEIGHBOUR: 'it returns false'. Refute it at one input. -/
def fnExactTangentsFromWrong : ChangeSpec := { name := "fnExactTangentsFrom", fn := fun _ => fun
  | [d1, d2] => { results := [.lit (.bool false)], args := [d1, d2] }
  | _ => none }
def FnExactTangentsFromWrongFalsely : Prop := fnExactTangentsFromRow.holds Try.pinned (OpenSpec.ofChange fnExactTangentsFromWrong)

/-- 'laws.FnExactStarOf': WHATEVER THE INPUT: true; the input reads as it did. -/
def fnExactStarOfSpec : ChangeSpec := { name := "fnExactStarOf", fn := fun _ => fun
  | [d] => { results := [.lit (.bool true)], args := [d] }
  | _ => none }
def fnExactStarOfRow : OpenClaim := { program := "ytnhlmmnaanallaa", sum := "264557e0d2aff6aad2057be5e9bba573382eafe6db39de6bb1297f4fada0d0ce", func := "loop.example/g01259/laws.FnExactStarOf", spec := "fnExactStarOf", unfollowed := true, recurses := true, apart := false }
def FnExactStarOfSaid : Prop := fnExactStarOfRow.holds Try.pinned (OpenSpec.ofChange fnExactStarOfSpec)

/-- ITS FALSE NEIGHBOUR: 'it returns false'. Refute it at one input. -/
def fnExactStarOfWrong : ChangeSpec := { name := "fnExactStarOf", fn := fun _ => fun
  | [d] => { results := [.lit (.bool false)], args := [d] }
  | _ => none }
def FnExactStarOfWrongFalsely : Prop := fnExactStarOfRow.holds Try.pinned (OpenSpec.ofChange fnExactStarOfWrong)

/-- 'laws.FnExactPegsOfBand': WHATEVER THE INPUT: true; the input reads as it did. -/
def fnExactPegsOfBandSpec : ChangeSpec := { name := "fnExactPegsOfBand", fn := fun _ => fun
  | [d] => { results := [.lit (.bool true)], args := [d] }
  | _ => none }
def fnExactPegsOfBandRow : OpenClaim := { program := "ytnhlmmnaanallaa", sum := "264557e0d2aff6aad2057be5e9bba573382eafe6db39de6bb1297f4fada0d0ce", func := "loop.example/g01259/laws.FnExactPegsOfBand", spec := "fnExactPegsOfBand", unfollowed := true, recurses := true, apart := false }
def FnExactPegsOfBandSaid : Prop := fnExactPegsOfBandRow.holds Try.pinned (OpenSpec.ofChange fnExactPegsOfBandSpec)

/-- ITS FALSE NEIGHBOUR: 'it returns false'. Refute it at one input. -/
def fnExactPegsOfBandWrong : ChangeSpec := { name := "fnExactPegsOfBand", fn := fun _ => fun
  | [d] => { results := [.lit (.bool false)], args := [d] }
  | _ => none }
def FnExactPegsOfBandWrongFalsely : Prop := fnExactPegsOfBandRow.holds Try.pinned (OpenSpec.ofChange fnExactPegsOfBandWrong)

/-- 'laws.FnExactIsThin': WHATEVER THE INPUT: true; the input reads as it did. -/
def fnExactIsThinSpec : ChangeSpec := { name := "fnExactIsThin", fn := fun _ => fun
  | [d] => { results := [.lit (.bool true)], args := [d] }
  | _ => none }
def fnExactIsThinRow : OpenClaim := { program := "ytnhlmmnaanallaa", sum := "264557e0d2aff6aad2057be5e9bba573382eafe6db39de6bb1297f4fada0d0ce", func := "loop.example/g01259/laws.FnExactIsThin", spec := "fnExactIsThin", unfollowed := true, recurses := true, apart := false }
def FnExactIsThinSaid : Prop := fnExactIsThinRow.holds Try.pinned (OpenSpec.ofChange fnExactIsThinSpec)

/-- ITS FALSE NEIGHBOUR: 'it returns false'. Refute it at one input. -/
def fnExactIsThinWrong : ChangeSpec := { name := "fnExactIsThin", fn := fun _ => fun
  | [d] => { results := [.lit (.bool false)], args := [d] }
  | _ => none }
def FnExactIsThinWrongFalsely : Prop := fnExactIsThinRow.holds Try.pinned (OpenSpec.ofChange fnExactIsThinWrong)

/-- 'laws.FnExactLayerOfPeg': WHATEVER THE INPUT: true; the input reads as it did. -/
def fnExactLayerOfPegSpec : ChangeSpec := { name := "fnExactLayerOfPeg", fn := fun _ => fun
  | [d1, d2] => { results := [.lit (.bool true)], args := [d1, d2] }
  | _ => none }
def fnExactLayerOfPegRow : OpenClaim := { program := "ytnhlmmnaanallaa", sum := "264557e0d2aff6aad2057be5e9bba573382eafe6db39de6bb1297f4fada0d0ce", func := "loop.example/g01259/laws.FnExactLayerOfPeg", spec := "fnExactLayerOfPeg", unfollowed := true, recurses := true, apart := false }
def FnExactLayerOfPegSaid : Prop := fnExactLayerOfPegRow.holds Try.pinned (OpenSpec.ofChange fnExactLayerOfPegSpec)

/-- ITS FALSE NEIGHBOUR: 'it returns false'. Refute it at one input. -/
def fnExactLayerOfPegWrong : ChangeSpec := { name := "fnExactLayerOfPeg", fn := fun _ => fun
  | [d1, d2] => { results := [.lit (.bool false)], args := [d1, d2] }
  | _ => none }
def FnExactLayerOfPegWrongFalsely : Prop := fnExactLayerOfPegRow.holds Try.pinned (OpenSpec.ofChange fnExactLayerOfPegWrong)

/-- 'laws.FnExactLeastWidth': WHATEVER THE INPUT: true; the input reads as it did. -/
def fnExactLeastWidthSpec : ChangeSpec := { name := "fnExactLeastWidth", fn := fun _ => fun
  | [d] => { results := [.lit (.bool true)], args := [d] }
  | _ => none }
def fnExactLeastWidthRow : OpenClaim := { program := "ytnhlmmnaanallaa", sum := "264557e0d2aff6aad2057be5e9bba573382eafe6db39de6bb1297f4fada0d0ce", func := "loop.example/g01259/laws.FnExactLeastWidth", spec := "fnExactLeastWidth", unfollowed := true, recurses := true, apart := false }
def FnExactLeastWidthSaid : Prop := fnExactLeastWidthRow.holds Try.pinned (OpenSpec.ofChange fnExactLeastWidthSpec)

/-- ITS FALSE NEIGHBOUR: 'it returns false'. Refute it at one input. -/
def fnExactLeastWidthWrong : ChangeSpec := { name := "fnExactLeastWidth", fn := fun _ => fun
  | [d] => { results := [.lit (.bool false)], args := [d] }
  | _ => none }
def FnExactLeastWidthWrongFalsely : Prop := fnExactLeastWidthRow.holds Try.pinned (OpenSpec.ofChange fnExactLeastWidthWrong)

/-- 'laws.FnExactLayersOf': WHATEVER THE INPUT: true; the input reads as it did. -/
def fnExactLayersOfSpec : ChangeSpec := { name := "fnExactLayersOf", fn := fun _ => fun
  | [d] => { results := [.lit (.bool true)], args := [d] }
  | _ => none }
def fnExactLayersOfRow : OpenClaim := { program := "ytnhlmmnaanallaa", sum := "264557e0d2aff6aad2057be5e9bba573382eafe6db39de6bb1297f4fada0d0ce", func := "loop.example/g01259/laws.FnExactLayersOf", spec := "fnExactLayersOf", unfollowed := true, recurses := true, apart := false }
def FnExactLayersOfSaid : Prop := fnExactLayersOfRow.holds Try.pinned (OpenSpec.ofChange fnExactLayersOfSpec)

/-- ITS FALSE NEIGHBOUR: 'it returns false'. Refute it at one input. -/
def fnExactLayersOfWrong : ChangeSpec := { name := "fnExactLayersOf", fn := fun _ => fun
  | [d] => { results := [.lit (.bool false)], args := [d] }
  | _ => none }
def FnExactLayersOfWrongFalsely : Prop := fnExactLayersOfRow.holds Try.pinned (OpenSpec.ofChange fnExactLayersOfWrong)

/-- 'laws.FnExactDirectionsOfWidth': WHATEVER THE INPUT: true; the input reads as it did. -/
def fnExactDirectionsOfWidthSpec : ChangeSpec := { name := "fnExactDirectionsOfWidth", fn := fun _ => fun
  | [d] => { results := [.lit (.bool true)], args := [d] }
  | _ => none }
def fnExactDirectionsOfWidthRow : OpenClaim := { program := "ytnhlmmnaanallaa", sum := "264557e0d2aff6aad2057be5e9bba573382eafe6db39de6bb1297f4fada0d0ce", func := "loop.example/g01259/laws.FnExactDirectionsOfWidth", spec := "fnExactDirectionsOfWidth", unfollowed := true, recurses := true, apart := false }
def FnExactDirectionsOfWidthSaid : Prop := fnExactDirectionsOfWidthRow.holds Try.pinned (OpenSpec.ofChange fnExactDirectionsOfWidthSpec)

/-- ITS FALSE NEIGHBOUR: 'it returns false'. Refute it at one input. -/
def fnExactDirectionsOfWidthWrong : ChangeSpec := { name := "fnExactDirectionsOfWidth", fn := fun _ => fun
  | [d] => { results := [.lit (.bool false)], args := [d] }
  | _ => none }
def FnExactDirectionsOfWidthWrongFalsely : Prop := fnExactDirectionsOfWidthRow.holds Try.pinned (OpenSpec.ofChange fnExactDirectionsOfWidthWrong)

/-- 'laws.FnExactFlatMove': WHATEVER THE INPUT: true; the input reads as it did. -/
def fnExactFlatMoveSpec : ChangeSpec := { name := "fnExactFlatMove", fn := fun _ => fun
  | [d] => { results := [.lit (.bool true)], args := [d] }
  | _ => none }
def fnExactFlatMoveRow : OpenClaim := { program := "ytnhlmmnaanallaa", sum := "264557e0d2aff6aad2057be5e9bba573382eafe6db39de6bb1297f4fada0d0ce", func := "loop.example/g01259/laws.FnExactFlatMove", spec := "fnExactFlatMove", unfollowed := true, recurses := true, apart := false }
def FnExactFlatMoveSaid : Prop := fnExactFlatMoveRow.holds Try.pinned (OpenSpec.ofChange fnExactFlatMoveSpec)

/-- ITS FALSE NEIGHBOUR: 'it returns false'. Refute it at one input. -/
def fnExactFlatMoveWrong : ChangeSpec := { name := "fnExactFlatMove", fn := fun _ => fun
  | [d] => { results := [.lit (.bool false)], args := [d] }
  | _ => none }
def FnExactFlatMoveWrongFalsely : Prop := fnExactFlatMoveRow.holds Try.pinned (OpenSpec.ofChange fnExactFlatMoveWrong)

/-- 'laws.FnExactFlatPolygon': WHATEVER THE INPUT: true; the input reads as it did. -/
def fnExactFlatPolygonSpec : ChangeSpec := { name := "fnExactFlatPolygon", fn := fun _ => fun
  | [d] => { results := [.lit (.bool true)], args := [d] }
  | _ => none }
def fnExactFlatPolygonRow : OpenClaim := { program := "ytnhlmmnaanallaa", sum := "264557e0d2aff6aad2057be5e9bba573382eafe6db39de6bb1297f4fada0d0ce", func := "loop.example/g01259/laws.FnExactFlatPolygon", spec := "fnExactFlatPolygon", unfollowed := true, recurses := true, apart := false }
def FnExactFlatPolygonSaid : Prop := fnExactFlatPolygonRow.holds Try.pinned (OpenSpec.ofChange fnExactFlatPolygonSpec)

/-- ITS FALSE NEIGHBOUR: 'it returns false'. Refute it at one input. -/
def fnExactFlatPolygonWrong : ChangeSpec := { name := "fnExactFlatPolygon", fn := fun _ => fun
  | [d] => { results := [.lit (.bool false)], args := [d] }
  | _ => none }
def FnExactFlatPolygonWrongFalsely : Prop := fnExactFlatPolygonRow.holds Try.pinned (OpenSpec.ofChange fnExactFlatPolygonWrong)

/-- 'laws.FnExactIsCut': WHATEVER THE INPUT: true; the input reads as it did. -/
def fnExactIsCutSpec : ChangeSpec := { name := "fnExactIsCut", fn := fun _ => fun
  | [d1, d2] => { results := [.lit (.bool true)], args := [d1, d2] }
  | _ => none }
def fnExactIsCutRow : OpenClaim := { program := "ytnhlmmnaanallaa", sum := "264557e0d2aff6aad2057be5e9bba573382eafe6db39de6bb1297f4fada0d0ce", func := "loop.example/g01259/laws.FnExactIsCut", spec := "fnExactIsCut", unfollowed := true, recurses := true, apart := false }
def FnExactIsCutSaid : Prop := fnExactIsCutRow.holds Try.pinned (OpenSpec.ofChange fnExactIsCutSpec)

/-- ITS FALSE NEIGHBOUR: 'it returns false'. Refute it at one input. -/
def fnExactIsCutWrong : ChangeSpec := { name := "fnExactIsCut", fn := fun _ => fun
  | [d1, d2] => { results := [.lit (.bool false)], args := [d1, d2] }
  | _ => none }
def FnExactIsCutWrongFalsely : Prop := fnExactIsCutRow.holds Try.pinned (OpenSpec.ofChange fnExactIsCutWrong)

/- THE SECOND FORM. 'bulk': how many values and letters a reading holds, each counted each time it is reached (what is shared counts as often as it is met; a slice's spare places count too). A statement '..UptoSaid' is the law's where the arguments, and the package variables that the reading takes, are together of bulk at most 1048576: NARROWER than '..Said'. Prove '..Said' where nothing that the law and all that it calls make is longer than what came in: it says more and counts as full. Else prove '..UptoSaid'. A law counts once. -/
mutual
def uptoBulk {H : Type} : DataW H → Nat
  | .lit (.string bytes) => bytes.length + 1
  | .lit _ => 1
  | .nil => 1
  | .ptr d => uptoBulk d + 1
  | .slice elems spare => uptoBulkAll elems + uptoBulkAll spare + 1
  | .agg parts => uptoBulkAll parts + 1
  | .iface _ d => uptoBulk d + 1
  | .map entries => uptoBulkEntries entries + 1
  | .held _ => 1
def uptoBulkAll {H : Type} : List (DataW H) → Nat
  | [] => 0
  | d :: r => uptoBulk d + uptoBulkAll r
def uptoBulkEntries {H : Type} : List (Lit × DataW H) → Nat
  | [] => 0
  | x :: r => uptoBulkEntry x + uptoBulkEntries r
def uptoBulkEntry {H : Type} : Lit × DataW H → Nat
  | (.string bytes, d) => bytes.length + uptoBulk d + 1
  | (_, d) => uptoBulk d + 1
 end
def uptoSmall : (H : Type) → List (DataW H) → Bool := fun _ ds => decide (uptoBulkAll ds ≤ 1048576)
def OpenSpec.upto (s : _root_.Go.ChangeSpec) : _root_.Go.OpenSpec := { _root_.Go.OpenSpec.ofChange s with cond := some uptoSmall }

/-- 'laws.FnExactCountDirections', WHERE WHAT IT READS IS OF BULK AT MOST 1048576: true; the input reads as it did. -/
def fnExactCountDirectionsUptoRow : OpenClaim := { program := "ytnhlmmnaanallaa", sum := "264557e0d2aff6aad2057be5e9bba573382eafe6db39de6bb1297f4fada0d0ce", func := "loop.example/g01259/laws.FnExactCountDirections", spec := "fnExactCountDirections", unfollowed := true, recurses := true, apart := false, narrowed := true }
def FnExactCountDirectionsUptoSaid : Prop := fnExactCountDirectionsUptoRow.holds Try.pinned (OpenSpec.upto fnExactCountDirectionsSpec)

/-- 'laws.FnExactTangentsFrom', WHERE WHAT IT READS IS OF BULK AT MOST 1048576: true; the input reads as it did. -/
def fnExactTangentsFromUptoRow : OpenClaim := { program := "ytnhlmmnaanallaa", sum := "264557e0d2aff6aad2057be5e9bba573382eafe6db39de6bb1297f4fada0d0ce", func := "loop.example/g01259/laws.FnExactTangentsFrom", spec := "fnExactTangentsFrom", unfollowed := true, recurses := true, apart := false, narrowed := true }
def FnExactTangentsFromUptoSaid : Prop := fnExactTangentsFromUptoRow.holds Try.pinned (OpenSpec.upto fnExactTangentsFromSpec)

/-- 'laws.FnExactStarOf', WHERE WHAT IT READS IS OF BULK AT MOST 1048576: true; the input reads as it did. -/
def fnExactStarOfUptoRow : OpenClaim := { program := "ytnhlmmnaanallaa", sum := "264557e0d2aff6aad2057be5e9bba573382eafe6db39de6bb1297f4fada0d0ce", func := "loop.example/g01259/laws.FnExactStarOf", spec := "fnExactStarOf", unfollowed := true, recurses := true, apart := false, narrowed := true }
def FnExactStarOfUptoSaid : Prop := fnExactStarOfUptoRow.holds Try.pinned (OpenSpec.upto fnExactStarOfSpec)

/-- 'laws.FnExactPegsOfBand', WHERE WHAT IT READS IS OF BULK AT MOST 1048576: true; the input reads as it did. -/
def fnExactPegsOfBandUptoRow : OpenClaim := { program := "ytnhlmmnaanallaa", sum := "264557e0d2aff6aad2057be5e9bba573382eafe6db39de6bb1297f4fada0d0ce", func := "loop.example/g01259/laws.FnExactPegsOfBand", spec := "fnExactPegsOfBand", unfollowed := true, recurses := true, apart := false, narrowed := true }
def FnExactPegsOfBandUptoSaid : Prop := fnExactPegsOfBandUptoRow.holds Try.pinned (OpenSpec.upto fnExactPegsOfBandSpec)

/-- 'laws.FnExactIsThin', WHERE WHAT IT READS IS OF BULK AT MOST 1048576: true; the input reads as it did. -/
def fnExactIsThinUptoRow : OpenClaim := { program := "ytnhlmmnaanallaa", sum := "264557e0d2aff6aad2057be5e9bba573382eafe6db39de6bb1297f4fada0d0ce", func := "loop.example/g01259/laws.FnExactIsThin", spec := "fnExactIsThin", unfollowed := true, recurses := true, apart := false, narrowed := true }
def FnExactIsThinUptoSaid : Prop := fnExactIsThinUptoRow.holds Try.pinned (OpenSpec.upto fnExactIsThinSpec)

/-- 'laws.FnExactLayerOfPeg', WHERE WHAT IT READS IS OF BULK AT MOST 1048576: true; the input reads as it did. -/
def fnExactLayerOfPegUptoRow : OpenClaim := { program := "ytnhlmmnaanallaa", sum := "264557e0d2aff6aad2057be5e9bba573382eafe6db39de6bb1297f4fada0d0ce", func := "loop.example/g01259/laws.FnExactLayerOfPeg", spec := "fnExactLayerOfPeg", unfollowed := true, recurses := true, apart := false, narrowed := true }
def FnExactLayerOfPegUptoSaid : Prop := fnExactLayerOfPegUptoRow.holds Try.pinned (OpenSpec.upto fnExactLayerOfPegSpec)

/-- 'laws.FnExactLeastWidth', WHERE WHAT IT READS IS OF BULK AT MOST 1048576: true; the input reads as it did. -/
def fnExactLeastWidthUptoRow : OpenClaim := { program := "ytnhlmmnaanallaa", sum := "264557e0d2aff6aad2057be5e9bba573382eafe6db39de6bb1297f4fada0d0ce", func := "loop.example/g01259/laws.FnExactLeastWidth", spec := "fnExactLeastWidth", unfollowed := true, recurses := true, apart := false, narrowed := true }
def FnExactLeastWidthUptoSaid : Prop := fnExactLeastWidthUptoRow.holds Try.pinned (OpenSpec.upto fnExactLeastWidthSpec)

/-- 'laws.FnExactLayersOf', WHERE WHAT IT READS IS OF BULK AT MOST 1048576: true; the input reads as it did. -/
def fnExactLayersOfUptoRow : OpenClaim := { program := "ytnhlmmnaanallaa", sum := "264557e0d2aff6aad2057be5e9bba573382eafe6db39de6bb1297f4fada0d0ce", func := "loop.example/g01259/laws.FnExactLayersOf", spec := "fnExactLayersOf", unfollowed := true, recurses := true, apart := false, narrowed := true }
def FnExactLayersOfUptoSaid : Prop := fnExactLayersOfUptoRow.holds Try.pinned (OpenSpec.upto fnExactLayersOfSpec)

/-- 'laws.FnExactDirectionsOfWidth', WHERE WHAT IT READS IS OF BULK AT MOST 1048576: true; the input reads as it did. -/
def fnExactDirectionsOfWidthUptoRow : OpenClaim := { program := "ytnhlmmnaanallaa", sum := "264557e0d2aff6aad2057be5e9bba573382eafe6db39de6bb1297f4fada0d0ce", func := "loop.example/g01259/laws.FnExactDirectionsOfWidth", spec := "fnExactDirectionsOfWidth", unfollowed := true, recurses := true, apart := false, narrowed := true }
def FnExactDirectionsOfWidthUptoSaid : Prop := fnExactDirectionsOfWidthUptoRow.holds Try.pinned (OpenSpec.upto fnExactDirectionsOfWidthSpec)

/-- 'laws.FnExactFlatMove', WHERE WHAT IT READS IS OF BULK AT MOST 1048576: true; the input reads as it did. -/
def fnExactFlatMoveUptoRow : OpenClaim := { program := "ytnhlmmnaanallaa", sum := "264557e0d2aff6aad2057be5e9bba573382eafe6db39de6bb1297f4fada0d0ce", func := "loop.example/g01259/laws.FnExactFlatMove", spec := "fnExactFlatMove", unfollowed := true, recurses := true, apart := false, narrowed := true }
def FnExactFlatMoveUptoSaid : Prop := fnExactFlatMoveUptoRow.holds Try.pinned (OpenSpec.upto fnExactFlatMoveSpec)

/-- 'laws.FnExactFlatPolygon', WHERE WHAT IT READS IS OF BULK AT MOST 1048576: true; the input reads as it did. -/
def fnExactFlatPolygonUptoRow : OpenClaim := { program := "ytnhlmmnaanallaa", sum := "264557e0d2aff6aad2057be5e9bba573382eafe6db39de6bb1297f4fada0d0ce", func := "loop.example/g01259/laws.FnExactFlatPolygon", spec := "fnExactFlatPolygon", unfollowed := true, recurses := true, apart := false, narrowed := true }
def FnExactFlatPolygonUptoSaid : Prop := fnExactFlatPolygonUptoRow.holds Try.pinned (OpenSpec.upto fnExactFlatPolygonSpec)

/-- 'laws.FnExactIsCut', WHERE WHAT IT READS IS OF BULK AT MOST 1048576: true; the input reads as it did. -/
def fnExactIsCutUptoRow : OpenClaim := { program := "ytnhlmmnaanallaa", sum := "264557e0d2aff6aad2057be5e9bba573382eafe6db39de6bb1297f4fada0d0ce", func := "loop.example/g01259/laws.FnExactIsCut", spec := "fnExactIsCut", unfollowed := true, recurses := true, apart := false, narrowed := true }
def FnExactIsCutUptoSaid : Prop := fnExactIsCutUptoRow.holds Try.pinned (OpenSpec.upto fnExactIsCutSpec)

end Rows
end Go.Proofs.Ytnhlmmnaanallaa
