/-
  No cell of these rows narrows 'for every input' (looked for: loops, veiled, ifaces, maps, wideKeys, modest, calm, conditions, laid).
  DERIVED. THE GIVEN ROWS OF THIS SEAT. 3 by the template 'for every input the law returns true; each argument reads behind the call as it read before'; 0 by the template 'total and deterministic' (their statements: YtbakccgnbiegjaaGreatTotals.lean).
  GIVEN WITH THE SEED: the statements are not yours to turn. If you find one false, say at which input.
  Laid BY PROGRAM, IN A SANDBOX (cutbox-rows.mjs): the forced cells as the released guide's own fill.sh prints them over the translation db07e50ffee0b01c… (all of the seat's roots in one cut). By AI agents, Wed Nov 11 2026. No macro, syntax, notation, axiom, sorry.
-/
import Derived.Test.YtbakccgnbiegjaaGreatChecked
import GoSem.Claim
import GoSem.ClaimJoined
import GoSem.ClaimMapViews
import Derived.JoinedTies
import Derived.KernelRfl
namespace Go.Proofs.YtbakccgnbiegjaaGreat
/- THE CELL 'sum', in the pinned program and in every row, IS THE sha256 OF THE DUMP (.gsa) THAT YtbakccgnbiegjaaGreatProg.lean LOADS. Nothing in Lean hashes anything: it is a label: what it is worth is what the hold of that sum in a sandbox is worth. -/
noncomputable def Tryz.pinned : Pinned := { name := "ytbakccgnbiegjaagreat", sum := "db07e50ffee0b01c782e56bf76571e10cc82a9a4f66fb143589874abb8679316", checked := Tryz.checked }
namespace Rows
def none {H : Type} : Left H := { results := [], args := [] }

/-- 'laws.FnKindsTold': WHATEVER THE INPUT: true; the input reads as it did. -/
def fnKindsToldSpec : ChangeSpec := { name := "fnKindsTold", fn := fun _ => fun
  | [d1, d2] => { results := [.lit (.bool true)], args := [d1, d2] }
  | _ => none }
def fnKindsToldRow : OpenClaim := { program := "ytbakccgnbiegjaagreat", sum := "db07e50ffee0b01c782e56bf76571e10cc82a9a4f66fb143589874abb8679316", func := "loop.example/g01259/laws.FnKindsTold", spec := "fnKindsTold", unfollowed := true, recurses := true, apart := false }
def FnKindsToldSaid : Prop := fnKindsToldRow.holds Tryz.pinned (OpenSpec.ofChange fnKindsToldSpec)

/-- ITS FALSE NEIGHBOUR: 'it returns false'. Refute it at one input. -/
def fnKindsToldWrong : ChangeSpec := { name := "fnKindsTold", fn := fun _ => fun
  | [d1, d2] => { results := [.lit (.bool false)], args := [d1, d2] }
  | _ => none }
def FnKindsToldWrongFalsely : Prop := fnKindsToldRow.holds Tryz.pinned (OpenSpec.ofChange fnKindsToldWrong)

/-- 'laws.FnExactCanExchange': WHATEVER THE INPUT: true; the input reads as it did. -/
def fnExactCanExchangeSpec : ChangeSpec := { name := "fnExactCanExchange", fn := fun _ => fun
  | [d1, d2, d3] => { results := [.lit (.bool true)], args := [d1, d2, d3] }
  | _ => none }
def fnExactCanExchangeRow : OpenClaim := { program := "ytbakccgnbiegjaagreat", sum := "db07e50ffee0b01c782e56bf76571e10cc82a9a4f66fb143589874abb8679316", func := "loop.example/g01259/laws.FnExactCanExchange", spec := "fnExactCanExchange", unfollowed := true, recurses := true, apart := false }
def FnExactCanExchangeSaid : Prop := fnExactCanExchangeRow.holds Tryz.pinned (OpenSpec.ofChange fnExactCanExchangeSpec)

/-- ITS FALSE NEIGHBOUR: 'it returns false'. Refute it at one input. -/
def fnExactCanExchangeWrong : ChangeSpec := { name := "fnExactCanExchange", fn := fun _ => fun
  | [d1, d2, d3] => { results := [.lit (.bool false)], args := [d1, d2, d3] }
  | _ => none }
def FnExactCanExchangeWrongFalsely : Prop := fnExactCanExchangeRow.holds Tryz.pinned (OpenSpec.ofChange fnExactCanExchangeWrong)

/-- 'laws.FnExactInnerLines': WHATEVER THE INPUT: true; the input reads as it did. -/
def fnExactInnerLinesSpec : ChangeSpec := { name := "fnExactInnerLines", fn := fun _ => fun
  | [d1, d2] => { results := [.lit (.bool true)], args := [d1, d2] }
  | _ => none }
def fnExactInnerLinesRow : OpenClaim := { program := "ytbakccgnbiegjaagreat", sum := "db07e50ffee0b01c782e56bf76571e10cc82a9a4f66fb143589874abb8679316", func := "loop.example/g01259/laws.FnExactInnerLines", spec := "fnExactInnerLines", unfollowed := true, recurses := true, apart := false }
def FnExactInnerLinesSaid : Prop := fnExactInnerLinesRow.holds Tryz.pinned (OpenSpec.ofChange fnExactInnerLinesSpec)

/-- ITS FALSE NEIGHBOUR: 'it returns false'. Refute it at one input. -/
def fnExactInnerLinesWrong : ChangeSpec := { name := "fnExactInnerLines", fn := fun _ => fun
  | [d1, d2] => { results := [.lit (.bool false)], args := [d1, d2] }
  | _ => none }
def FnExactInnerLinesWrongFalsely : Prop := fnExactInnerLinesRow.holds Tryz.pinned (OpenSpec.ofChange fnExactInnerLinesWrong)

/- THE SECOND FORM. 'bulk': how many values and letters a reading holds, each counted each time it is reached (what is shared counts as often as it is met; a slice's spare places count too). A statement '..UptoSaid' is the law's where the arguments, and the package variables that the reading takes, are together of bulk at most 1048576: NARROWER than '..Said'. Prove '..Said' where nothing that the law and all that it calls make is longer than what came in: it says more and counts as full. Else prove '..UptoSaid'. A law counts once. -/
mutual
def uptoBulk {H : Type} : DataW H → Nat
  | .lit (.string bytes) => bytes.length + 1
  | .lit _ => 1
  | .nil => 1
  | .ptr d => uptoBulk d + 1
  | .slice elems spare => uptoBulkAll elems + uptoBulkAll spare + 1
  | .agg parts => uptoBulkAll parts + 1
  | .iface _ d => uptoBulk d + 1
  | .map entries => uptoBulkEntries entries + 1
  | .held _ => 1
def uptoBulkAll {H : Type} : List (DataW H) → Nat
  | [] => 0
  | d :: r => uptoBulk d + uptoBulkAll r
def uptoBulkEntries {H : Type} : List (Lit × DataW H) → Nat
  | [] => 0
  | x :: r => uptoBulkEntry x + uptoBulkEntries r
def uptoBulkEntry {H : Type} : Lit × DataW H → Nat
  | (.string bytes, d) => bytes.length + uptoBulk d + 1
  | (_, d) => uptoBulk d + 1
 end
def uptoSmall : (H : Type) → List (DataW H) → Bool := fun _ ds => decide (uptoBulkAll ds ≤ 1048576)
def OpenSpec.upto (s : _root_.Go.ChangeSpec) : _root_.Go.OpenSpec := { _root_.Go.OpenSpec.ofChange s with cond := some uptoSmall }

/-- 'laws.FnKindsTold', WHERE WHAT IT READS IS OF BULK AT MOST 1048576: true; the input reads as it did. -/
def fnKindsToldUptoRow : OpenClaim := { program := "ytbakccgnbiegjaagreat", sum := "db07e50ffee0b01c782e56bf76571e10cc82a9a4f66fb143589874abb8679316", func := "loop.example/g01259/laws.FnKindsTold", spec := "fnKindsTold", unfollowed := true, recurses := true, apart := false, narrowed := true }
def FnKindsToldUptoSaid : Prop := fnKindsToldUptoRow.holds Tryz.pinned (OpenSpec.upto fnKindsToldSpec)

/-- 'laws.FnExactCanExchange', WHERE WHAT IT READS IS OF BULK AT MOST 1048576: true; the input reads as it did. -/
def fnExactCanExchangeUptoRow : OpenClaim := { program := "ytbakccgnbiegjaagreat", sum := "db07e50ffee0b01c782e56bf76571e10cc82a9a4f66fb143589874abb8679316", func := "loop.example/g01259/laws.FnExactCanExchange", spec := "fnExactCanExchange", unfollowed := true, recurses := true, apart := false, narrowed := true }
def FnExactCanExchangeUptoSaid : Prop := fnExactCanExchangeUptoRow.holds Tryz.pinned (OpenSpec.upto fnExactCanExchangeSpec)

/-- 'laws.FnExactInnerLines', WHERE WHAT IT READS IS OF BULK AT MOST 1048576: true; the input reads as it did. -/
def fnExactInnerLinesUptoRow : OpenClaim := { program := "ytbakccgnbiegjaagreat", sum := "db07e50ffee0b01c782e56bf76571e10cc82a9a4f66fb143589874abb8679316", func := "loop.example/g01259/laws.FnExactInnerLines", spec := "fnExactInnerLines", unfollowed := true, recurses := true, apart := false, narrowed := true }
def FnExactInnerLinesUptoSaid : Prop := fnExactInnerLinesUptoRow.holds Tryz.pinned (OpenSpec.upto fnExactInnerLinesSpec)

end Rows
end Go.Proofs.YtbakccgnbiegjaaGreat
