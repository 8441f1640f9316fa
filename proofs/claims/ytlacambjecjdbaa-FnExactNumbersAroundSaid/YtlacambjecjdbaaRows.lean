/-
  No cell of these rows narrows 'for every input' (looked for: loops, veiled, ifaces, maps, wideKeys, modest, calm, conditions, laid).
  DERIVED. THE GIVEN ROWS OF THIS SEAT. 5 by the template 'for every input the law returns true; each argument reads behind the call as it read before'; 0 by the template 'total and deterministic' (their statements: YtlacambjecjdbaaTotals.lean).
  GIVEN WITH THE SEED: the statements are not yours to turn. If you find one false, say at which input.
  Laid BY PROGRAM, IN A SANDBOX (cutbox-rows.mjs): the forced cells as the released guide's own fill.sh prints them over the translation 6c4127816994a738… (all of the seat's roots in one cut). By AI agents, Wed Nov 11 2026. No macro, syntax, notation, axiom, sorry.
-/
import Derived.Test.YtlacambjecjdbaaChecked
import GoSem.Claim
import GoSem.ClaimJoined
import GoSem.ClaimMapViews
import Derived.JoinedTies
import Derived.KernelRfl
namespace Go.Proofs.Ytlacambjecjdbaa
/- THE CELL 'sum', in the pinned program and in every row, IS THE sha256 OF THE DUMP (.gsa) THAT YtlacambjecjdbaaProg.lean LOADS. Nothing in Lean hashes anything: it is a label: what it is worth is what the hold of that sum in a sandbox is worth. -/
noncomputable def Try.pinned : Pinned := { name := "ytlacambjecjdbaa", sum := "6c4127816994a738a8e473b6e9c47b247122aa88a33247752778fa3a664dc15c", checked := Try.checked }
namespace Rows
def none {H : Type} : Left H := { results := [], args := [] }

/-- 'laws.FnExactAroundOf': WHATEVER THE INPUT: true; the input reads as it did. -/
def fnExactAroundOfSpec : ChangeSpec := { name := "fnExactAroundOf", fn := fun _ => fun
  | [d] => { results := [.lit (.bool true)], args := [d] }
  | _ => none }
def fnExactAroundOfRow : OpenClaim := { program := "ytlacambjecjdbaa", sum := "6c4127816994a738a8e473b6e9c47b247122aa88a33247752778fa3a664dc15c", func := "loop.example/g01259/laws.FnExactAroundOf", spec := "fnExactAroundOf", unfollowed := true, recurses := true, apart := false }
def FnExactAroundOfSaid : Prop := fnExactAroundOfRow.holds Try.pinned (OpenSpec.ofChange fnExactAroundOfSpec)

/-- ITS FALSE NEIGHBOUR: 'it returns false'. Refute it at one input. -/
def fnExactAroundOfWrong : ChangeSpec := { name := "fnExactAroundOf", fn := fun _ => fun
  | [d] => { results := [.lit (.bool false)], args := [d] }
  | _ => none }
def FnExactAroundOfWrongFalsely : Prop := fnExactAroundOfRow.holds Try.pinned (OpenSpec.ofChange fnExactAroundOfWrong)

/-- 'laws.FnExactDualOf': WHATEVER THE INPUT: true; the input reads as it did. -/
def fnExactDualOfSpec : ChangeSpec := { name := "fnExactDualOf", fn := fun _ => fun
  | [d] => { results := [.lit (.bool true)], args := [d] }
  | _ => none }
def fnExactDualOfRow : OpenClaim := { program := "ytlacambjecjdbaa", sum := "6c4127816994a738a8e473b6e9c47b247122aa88a33247752778fa3a664dc15c", func := "loop.example/g01259/laws.FnExactDualOf", spec := "fnExactDualOf", unfollowed := true, recurses := true, apart := false }
def FnExactDualOfSaid : Prop := fnExactDualOfRow.holds Try.pinned (OpenSpec.ofChange fnExactDualOfSpec)

/-- ITS FALSE NEIGHBOUR: 'it returns false'. Refute it at one input. -/
def fnExactDualOfWrong : ChangeSpec := { name := "fnExactDualOf", fn := fun _ => fun
  | [d] => { results := [.lit (.bool false)], args := [d] }
  | _ => none }
def FnExactDualOfWrongFalsely : Prop := fnExactDualOfRow.holds Try.pinned (OpenSpec.ofChange fnExactDualOfWrong)

/-- 'laws.FnExactKindOfTriangle': WHATEVER THE INPUT: true; the input reads as it did. -/
def fnExactKindOfTriangleSpec : ChangeSpec := { name := "fnExactKindOfTriangle", fn := fun _ => fun
  | [d] => { results := [.lit (.bool true)], args := [d] }
  | _ => none }
def fnExactKindOfTriangleRow : OpenClaim := { program := "ytlacambjecjdbaa", sum := "6c4127816994a738a8e473b6e9c47b247122aa88a33247752778fa3a664dc15c", func := "loop.example/g01259/laws.FnExactKindOfTriangle", spec := "fnExactKindOfTriangle", unfollowed := true, recurses := true, apart := false }
def FnExactKindOfTriangleSaid : Prop := fnExactKindOfTriangleRow.holds Try.pinned (OpenSpec.ofChange fnExactKindOfTriangleSpec)

/-- ITS FALSE NEIGHBOUR: 'it returns false'. Refute it at one input. -/
def fnExactKindOfTriangleWrong : ChangeSpec := { name := "fnExactKindOfTriangle", fn := fun _ => fun
  | [d] => { results := [.lit (.bool false)], args := [d] }
  | _ => none }
def FnExactKindOfTriangleWrongFalsely : Prop := fnExactKindOfTriangleRow.holds Try.pinned (OpenSpec.ofChange fnExactKindOfTriangleWrong)

/-- 'laws.FnExactTriangleOfKind': WHATEVER THE INPUT: true; the input reads as it did. -/
def fnExactTriangleOfKindSpec : ChangeSpec := { name := "fnExactTriangleOfKind", fn := fun _ => fun
  | [d] => { results := [.lit (.bool true)], args := [d] }
  | _ => none }
def fnExactTriangleOfKindRow : OpenClaim := { program := "ytlacambjecjdbaa", sum := "6c4127816994a738a8e473b6e9c47b247122aa88a33247752778fa3a664dc15c", func := "loop.example/g01259/laws.FnExactTriangleOfKind", spec := "fnExactTriangleOfKind", unfollowed := true, recurses := true, apart := false }
def FnExactTriangleOfKindSaid : Prop := fnExactTriangleOfKindRow.holds Try.pinned (OpenSpec.ofChange fnExactTriangleOfKindSpec)

/-- ITS FALSE NEIGHBOUR: 'it returns false'. Refute it at one input. -/
def fnExactTriangleOfKindWrong : ChangeSpec := { name := "fnExactTriangleOfKind", fn := fun _ => fun
  | [d] => { results := [.lit (.bool false)], args := [d] }
  | _ => none }
def FnExactTriangleOfKindWrongFalsely : Prop := fnExactTriangleOfKindRow.holds Try.pinned (OpenSpec.ofChange fnExactTriangleOfKindWrong)

/-- 'laws.FnExactNumbersAround': WHATEVER THE INPUT: true; the input reads as it did. -/
def fnExactNumbersAroundSpec : ChangeSpec := { name := "fnExactNumbersAround", fn := fun _ => fun
  | [d] => { results := [.lit (.bool true)], args := [d] }
  | _ => none }
def fnExactNumbersAroundRow : OpenClaim := { program := "ytlacambjecjdbaa", sum := "6c4127816994a738a8e473b6e9c47b247122aa88a33247752778fa3a664dc15c", func := "loop.example/g01259/laws.FnExactNumbersAround", spec := "fnExactNumbersAround", unfollowed := true, recurses := true, apart := false }
def FnExactNumbersAroundSaid : Prop := fnExactNumbersAroundRow.holds Try.pinned (OpenSpec.ofChange fnExactNumbersAroundSpec)

/-- ITS FALSE NEIGHBOUR: 'it returns false'. Refute it at one input. -/
def fnExactNumbersAroundWrong : ChangeSpec := { name := "fnExactNumbersAround", fn := fun _ => fun
  | [d] => { results := [.lit (.bool false)], args := [d] }
  | _ => none }
def FnExactNumbersAroundWrongFalsely : Prop := fnExactNumbersAroundRow.holds Try.pinned (OpenSpec.ofChange fnExactNumbersAroundWrong)

/- THE SECOND FORM. 'bulk': how many values and letters a reading holds, each counted each time it is reached (what is shared counts as often as it is met; a slice's spare places count too). A statement '..UptoSaid' is the law's where the arguments, and the package variables that the reading takes, are together of bulk at most 1048576: NARROWER than '..Said'. Prove '..Said' where nothing that the law and all that it calls make is longer than what came in: it says more and counts as full. Else prove '..UptoSaid'. A law counts once. -/
mutual
def uptoBulk {H : Type} : DataW H → Nat
  | .lit (.string bytes) => bytes.length + 1
  | .lit _ => 1
  | .nil => 1
  | .ptr d => uptoBulk d + 1
  | .slice elems spare => uptoBulkAll elems + uptoBulkAll spare + 1
  | .agg parts => uptoBulkAll parts + 1
  | .iface _ d => uptoBulk d + 1
  | .map entries => uptoBulkEntries entries + 1
  | .held _ => 1
def uptoBulkAll {H : Type} : List (DataW H) → Nat
  | [] => 0
  | d :: r => uptoBulk d + uptoBulkAll r
def uptoBulkEntries {H : Type} : List (Lit × DataW H) → Nat
  | [] => 0
  | x :: r => uptoBulkEntry x + uptoBulkEntries r
def uptoBulkEntry {H : Type} : Lit × DataW H → Nat
  | (.string bytes, d) => bytes.length + uptoBulk d + 1
  | (_, d) => uptoBulk d + 1
 end
def uptoSmall : (H : Type) → List (DataW H) → Bool := fun _ ds => decide (uptoBulkAll ds ≤ 1048576)
def OpenSpec.upto (s : _root_.Go.ChangeSpec) : _root_.Go.OpenSpec := { _root_.Go.OpenSpec.ofChange s with cond := some uptoSmall }

/-- 'laws.FnExactAroundOf', WHERE WHAT IT READS IS OF BULK AT MOST 1048576: true; the input reads as it did. -/
def fnExactAroundOfUptoRow : OpenClaim := { program := "ytlacambjecjdbaa", sum := "6c4127816994a738a8e473b6e9c47b247122aa88a33247752778fa3a664dc15c", func := "loop.example/g01259/laws.FnExactAroundOf", spec := "fnExactAroundOf", unfollowed := true, recurses := true, apart := false, narrowed := true }
def FnExactAroundOfUptoSaid : Prop := fnExactAroundOfUptoRow.holds Try.pinned (OpenSpec.upto fnExactAroundOfSpec)

/-- 'laws.FnExactDualOf', WHERE WHAT IT READS IS OF BULK AT MOST 1048576: true; the input reads as it did. -/
def fnExactDualOfUptoRow : OpenClaim := { program := "ytlacambjecjdbaa", sum := "6c4127816994a738a8e473b6e9c47b247122aa88a33247752778fa3a664dc15c", func := "loop.example/g01259/laws.FnExactDualOf", spec := "fnExactDualOf", unfollowed := true, recurses := true, apart := false, narrowed := true }
def FnExactDualOfUptoSaid : Prop := fnExactDualOfUptoRow.holds Try.pinned (OpenSpec.upto fnExactDualOfSpec)

/-- 'laws.FnExactKindOfTriangle', WHERE WHAT IT READS IS OF BULK AT MOST 1048576: true; the input reads as it did. -/
def fnExactKindOfTriangleUptoRow : OpenClaim := { program := "ytlacambjecjdbaa", sum := "6c4127816994a738a8e473b6e9c47b247122aa88a33247752778fa3a664dc15c", func := "loop.example/g01259/laws.FnExactKindOfTriangle", spec := "fnExactKindOfTriangle", unfollowed := true, recurses := true, apart := false, narrowed := true }
def FnExactKindOfTriangleUptoSaid : Prop := fnExactKindOfTriangleUptoRow.holds Try.pinned (OpenSpec.upto fnExactKindOfTriangleSpec)

/-- 'laws.FnExactTriangleOfKind', WHERE WHAT IT READS IS OF BULK AT MOST 1048576: true; the input reads as it did. -/
def fnExactTriangleOfKindUptoRow : OpenClaim := { program := "ytlacambjecjdbaa", sum := "6c4127816994a738a8e473b6e9c47b247122aa88a33247752778fa3a664dc15c", func := "loop.example/g01259/laws.FnExactTriangleOfKind", spec := "fnExactTriangleOfKind", unfollowed := true, recurses := true, apart := false, narrowed := true }
def FnExactTriangleOfKindUptoSaid : Prop := fnExactTriangleOfKindUptoRow.holds Try.pinned (OpenSpec.upto fnExactTriangleOfKindSpec)

/-- 'laws.FnExactNumbersAround', WHERE WHAT IT READS IS OF BULK AT MOST 1048576: true; the input reads as it did. -/
def fnExactNumbersAroundUptoRow : OpenClaim := { program := "ytlacambjecjdbaa", sum := "6c4127816994a738a8e473b6e9c47b247122aa88a33247752778fa3a664dc15c", func := "loop.example/g01259/laws.FnExactNumbersAround", spec := "fnExactNumbersAround", unfollowed := true, recurses := true, apart := false, narrowed := true }
def FnExactNumbersAroundUptoSaid : Prop := fnExactNumbersAroundUptoRow.holds Try.pinned (OpenSpec.upto fnExactNumbersAroundSpec)

end Rows
end Go.Proofs.Ytlacambjecjdbaa
