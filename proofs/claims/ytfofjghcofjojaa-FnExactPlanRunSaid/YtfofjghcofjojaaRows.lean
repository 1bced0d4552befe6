/-
  No cell of these rows narrows 'for every input' (looked for: loops, veiled, ifaces, maps, wideKeys, modest, calm, conditions, laid).
  DERIVED. THE GIVEN ROWS OF THIS SEAT. 12 by the template 'for every input the law returns true; each argument reads behind the call as it read before'; 0 by the template 'total and deterministic' (their statements: YtfofjghcofjojaaTotals.lean).
  GIVEN WITH THE SEED: the statements are not yours to turn. If you find one false, say at which input.
  Laid BY PROGRAM, IN A SANDBOX (cutbox-rows.mjs): the forced cells as the released guide's own fill.sh prints them over the translation b10476907e98ce0b… (all of the seat's roots in one cut). By AI agents, Wed Nov 11 2026. No macro, syntax, notation, axiom, sorry.
-/
import Derived.Test.YtfofjghcofjojaaChecked
import GoSem.Claim
import GoSem.ClaimJoined
import GoSem.ClaimMapViews
import Derived.JoinedTies
import Derived.KernelRfl
namespace Go.Proofs.Ytfofjghcofjojaa
/- THE CELL 'sum', in the pinned program and in every row, IS THE sha256 OF THE DUMP (.gsa) THAT YtfofjghcofjojaaProg.lean LOADS. Nothing in Lean hashes anything: it is a label: what it is worth is what the hold of that sum in a sandbox is worth. -/
noncomputable def Try.pinned : Pinned := { name := "ytfofjghcofjojaa", sum := "b10476907e98ce0bb45097fe760dd0051830c3b9b4553dae02f3af9b91de6016", checked := Try.checked }
namespace Rows
def none {H : Type} : Left H := { results := [], args := [] }

/-- 'laws.FnExactCodeDepth': WHATEVER THE INPUT: true; the input reads as it did. -/
def fnExactCodeDepthSpec : ChangeSpec := { name := "fnExactCodeDepth", fn := fun _ => fun
  | [d] => { results := [.lit (.bool true)], args := [d] }
  | _ => none }
def fnExactCodeDepthRow : OpenClaim := { program := "ytfofjghcofjojaa", sum := "b10476907e98ce0bb45097fe760dd0051830c3b9b4553dae02f3af9b91de6016", func := "loop.example/switchpuzzles/laws.FnExactCodeDepth", spec := "fnExactCodeDepth", apart := false }
def FnExactCodeDepthSaid : Prop := fnExactCodeDepthRow.holds Try.pinned (OpenSpec.ofChange fnExactCodeDepthSpec)

/-- ITS FALSE NEIGHBOUR: 'it returns false'. Refute it at one input. -/
def fnExactCodeDepthWrong : ChangeSpec := { name := "fnExactCodeDepth", fn := fun _ => fun
  | [d] => { results := [.lit (.bool false)], args := [d] }
  | _ => none }
def FnExactCodeDepthWrongFalsely : Prop := fnExactCodeDepthRow.holds Try.pinned (OpenSpec.ofChange fnExactCodeDepthWrong)

/-- 'laws.FnExactCodeValid': WHATEVER THE INPUT: true; the input reads as it did. -/
def fnExactCodeValidSpec : ChangeSpec := { name := "fnExactCodeValid", fn := fun _ => fun
  | [d] => { results := [.lit (.bool true)], args := [d] }
  | _ => none }
def fnExactCodeValidRow : OpenClaim := { program := "ytfofjghcofjojaa", sum := "b10476907e98ce0bb45097fe760dd0051830c3b9b4553dae02f3af9b91de6016", func := "loop.example/switchpuzzles/laws.FnExactCodeValid", spec := "fnExactCodeValid", apart := false }
def FnExactCodeValidSaid : Prop := fnExactCodeValidRow.holds Try.pinned (OpenSpec.ofChange fnExactCodeValidSpec)

/-- ITS FALSE NEIGHBOUR: 'it returns false'. Refute it at one input. -/
def fnExactCodeValidWrong : ChangeSpec := { name := "fnExactCodeValid", fn := fun _ => fun
  | [d] => { results := [.lit (.bool false)], args := [d] }
  | _ => none }
def FnExactCodeValidWrongFalsely : Prop := fnExactCodeValidRow.holds Try.pinned (OpenSpec.ofChange fnExactCodeValidWrong)

/-- 'laws.FnExactFactsNamed': WHATEVER THE INPUT: true; the input reads as it did. -/
def fnExactFactsNamedSpec : ChangeSpec := { name := "fnExactFactsNamed", fn := fun _ => fun
  | [d] => { results := [.lit (.bool true)], args := [d] }
  | _ => none }
def fnExactFactsNamedRow : OpenClaim := { program := "ytfofjghcofjojaa", sum := "b10476907e98ce0bb45097fe760dd0051830c3b9b4553dae02f3af9b91de6016", func := "loop.example/switchpuzzles/laws.FnExactFactsNamed", spec := "fnExactFactsNamed", apart := false }
def FnExactFactsNamedSaid : Prop := fnExactFactsNamedRow.holds Try.pinned (OpenSpec.ofChange fnExactFactsNamedSpec)

/-- ITS FALSE NEIGHBOUR: 'it returns false'. Refute it at one input. -/
def fnExactFactsNamedWrong : ChangeSpec := { name := "fnExactFactsNamed", fn := fun _ => fun
  | [d] => { results := [.lit (.bool false)], args := [d] }
  | _ => none }
def FnExactFactsNamedWrongFalsely : Prop := fnExactFactsNamedRow.holds Try.pinned (OpenSpec.ofChange fnExactFactsNamedWrong)

/-- 'laws.FnExactCodeJoin': WHATEVER THE INPUT: true; the input reads as it did. -/
def fnExactCodeJoinSpec : ChangeSpec := { name := "fnExactCodeJoin", fn := fun _ => fun
  | [d1, d2, d3] => { results := [.lit (.bool true)], args := [d1, d2, d3] }
  | _ => none }
def fnExactCodeJoinRow : OpenClaim := { program := "ytfofjghcofjojaa", sum := "b10476907e98ce0bb45097fe760dd0051830c3b9b4553dae02f3af9b91de6016", func := "loop.example/switchpuzzles/laws.FnExactCodeJoin", spec := "fnExactCodeJoin", apart := false }
def FnExactCodeJoinSaid : Prop := fnExactCodeJoinRow.holds Try.pinned (OpenSpec.ofChange fnExactCodeJoinSpec)

/-- ITS FALSE NEIGHBOUR: 'it returns false'. Refute it at one input. -/
def fnExactCodeJoinWrong : ChangeSpec := { name := "fnExactCodeJoin", fn := fun _ => fun
  | [d1, d2, d3] => { results := [.lit (.bool false)], args := [d1, d2, d3] }
  | _ => none }
def FnExactCodeJoinWrongFalsely : Prop := fnExactCodeJoinRow.holds Try.pinned (OpenSpec.ofChange fnExactCodeJoinWrong)

/-- 'laws.FnExactCodeRun': WHATEVER THE INPUT: true; the input reads as it did. -/
def fnExactCodeRunSpec : ChangeSpec := { name := "fnExactCodeRun", fn := fun _ => fun
  | [d1, d2] => { results := [.lit (.bool true)], args := [d1, d2] }
  | _ => none }
def fnExactCodeRunRow : OpenClaim := { program := "ytfofjghcofjojaa", sum := "b10476907e98ce0bb45097fe760dd0051830c3b9b4553dae02f3af9b91de6016", func := "loop.example/switchpuzzles/laws.FnExactCodeRun", spec := "fnExactCodeRun", apart := false }
def FnExactCodeRunSaid : Prop := fnExactCodeRunRow.holds Try.pinned (OpenSpec.ofChange fnExactCodeRunSpec)

/-- ITS FALSE NEIGHBOUR: 'it returns false'. Refute it at one input. -/
def fnExactCodeRunWrong : ChangeSpec := { name := "fnExactCodeRun", fn := fun _ => fun
  | [d1, d2] => { results := [.lit (.bool false)], args := [d1, d2] }
  | _ => none }
def FnExactCodeRunWrongFalsely : Prop := fnExactCodeRunRow.holds Try.pinned (OpenSpec.ofChange fnExactCodeRunWrong)

/-- 'laws.FnExactDeedValid': WHATEVER THE INPUT: true; the input reads as it did. -/
def fnExactDeedValidSpec : ChangeSpec := { name := "fnExactDeedValid", fn := fun _ => fun
  | [d] => { results := [.lit (.bool true)], args := [d] }
  | _ => none }
def fnExactDeedValidRow : OpenClaim := { program := "ytfofjghcofjojaa", sum := "b10476907e98ce0bb45097fe760dd0051830c3b9b4553dae02f3af9b91de6016", func := "loop.example/switchpuzzles/laws.FnExactDeedValid", spec := "fnExactDeedValid", apart := false }
def FnExactDeedValidSaid : Prop := fnExactDeedValidRow.holds Try.pinned (OpenSpec.ofChange fnExactDeedValidSpec)

/-- ITS FALSE NEIGHBOUR: 'it returns false'. Refute it at one input. -/
def fnExactDeedValidWrong : ChangeSpec := { name := "fnExactDeedValid", fn := fun _ => fun
  | [d] => { results := [.lit (.bool false)], args := [d] }
  | _ => none }
def FnExactDeedValidWrongFalsely : Prop := fnExactDeedValidRow.holds Try.pinned (OpenSpec.ofChange fnExactDeedValidWrong)

/-- 'laws.FnExactCodeTruth': WHATEVER THE INPUT: true; the input reads as it did. -/
def fnExactCodeTruthSpec : ChangeSpec := { name := "fnExactCodeTruth", fn := fun _ => fun
  | [d] => { results := [.lit (.bool true)], args := [d] }
  | _ => none }
def fnExactCodeTruthRow : OpenClaim := { program := "ytfofjghcofjojaa", sum := "b10476907e98ce0bb45097fe760dd0051830c3b9b4553dae02f3af9b91de6016", func := "loop.example/switchpuzzles/laws.FnExactCodeTruth", spec := "fnExactCodeTruth", apart := false }
def FnExactCodeTruthSaid : Prop := fnExactCodeTruthRow.holds Try.pinned (OpenSpec.ofChange fnExactCodeTruthSpec)

/-- ITS FALSE NEIGHBOUR: 'it returns false'. Refute it at one input. -/
def fnExactCodeTruthWrong : ChangeSpec := { name := "fnExactCodeTruth", fn := fun _ => fun
  | [d] => { results := [.lit (.bool false)], args := [d] }
  | _ => none }
def FnExactCodeTruthWrongFalsely : Prop := fnExactCodeTruthRow.holds Try.pinned (OpenSpec.ofChange fnExactCodeTruthWrong)

/-- 'laws.FnExactSameCode': WHATEVER THE INPUT: true; the input reads as it did. -/
def fnExactSameCodeSpec : ChangeSpec := { name := "fnExactSameCode", fn := fun _ => fun
  | [d1, d2] => { results := [.lit (.bool true)], args := [d1, d2] }
  | _ => none }
def fnExactSameCodeRow : OpenClaim := { program := "ytfofjghcofjojaa", sum := "b10476907e98ce0bb45097fe760dd0051830c3b9b4553dae02f3af9b91de6016", func := "loop.example/switchpuzzles/laws.FnExactSameCode", spec := "fnExactSameCode", apart := false }
def FnExactSameCodeSaid : Prop := fnExactSameCodeRow.holds Try.pinned (OpenSpec.ofChange fnExactSameCodeSpec)

/-- ITS FALSE NEIGHBOUR: 'it returns false'. Refute it at one input. -/
def fnExactSameCodeWrong : ChangeSpec := { name := "fnExactSameCode", fn := fun _ => fun
  | [d1, d2] => { results := [.lit (.bool false)], args := [d1, d2] }
  | _ => none }
def FnExactSameCodeWrongFalsely : Prop := fnExactSameCodeRow.holds Try.pinned (OpenSpec.ofChange fnExactSameCodeWrong)

/-- 'laws.FnExactFactsMatter': WHATEVER THE INPUT: true; the input reads as it did. -/
def fnExactFactsMatterSpec : ChangeSpec := { name := "fnExactFactsMatter", fn := fun _ => fun
  | [d] => { results := [.lit (.bool true)], args := [d] }
  | _ => none }
def fnExactFactsMatterRow : OpenClaim := { program := "ytfofjghcofjojaa", sum := "b10476907e98ce0bb45097fe760dd0051830c3b9b4553dae02f3af9b91de6016", func := "loop.example/switchpuzzles/laws.FnExactFactsMatter", spec := "fnExactFactsMatter", apart := false }
def FnExactFactsMatterSaid : Prop := fnExactFactsMatterRow.holds Try.pinned (OpenSpec.ofChange fnExactFactsMatterSpec)

/-- ITS FALSE NEIGHBOUR: 'it returns false'. Refute it at one input. -/
def fnExactFactsMatterWrong : ChangeSpec := { name := "fnExactFactsMatter", fn := fun _ => fun
  | [d] => { results := [.lit (.bool false)], args := [d] }
  | _ => none }
def FnExactFactsMatterWrongFalsely : Prop := fnExactFactsMatterRow.holds Try.pinned (OpenSpec.ofChange fnExactFactsMatterWrong)

/-- 'laws.FnExactDeedDo': WHATEVER THE INPUT: true; the input reads as it did. -/
def fnExactDeedDoSpec : ChangeSpec := { name := "fnExactDeedDo", fn := fun _ => fun
  | [d1, d2] => { results := [.lit (.bool true)], args := [d1, d2] }
  | _ => none }
def fnExactDeedDoRow : OpenClaim := { program := "ytfofjghcofjojaa", sum := "b10476907e98ce0bb45097fe760dd0051830c3b9b4553dae02f3af9b91de6016", func := "loop.example/switchpuzzles/laws.FnExactDeedDo", spec := "fnExactDeedDo", apart := false }
def FnExactDeedDoSaid : Prop := fnExactDeedDoRow.holds Try.pinned (OpenSpec.ofChange fnExactDeedDoSpec)

/-- ITS FALSE NEIGHBOUR: 'it returns false'. Refute it at one input. -/
def fnExactDeedDoWrong : ChangeSpec := { name := "fnExactDeedDo", fn := fun _ => fun
  | [d1, d2] => { results := [.lit (.bool false)], args := [d1, d2] }
  | _ => none }
def FnExactDeedDoWrongFalsely : Prop := fnExactDeedDoRow.holds Try.pinned (OpenSpec.ofChange fnExactDeedDoWrong)

/-- 'laws.FnExactTaskValid': WHATEVER THE INPUT: true; the input reads as it did. -/
def fnExactTaskValidSpec : ChangeSpec := { name := "fnExactTaskValid", fn := fun _ => fun
  | [d] => { results := [.lit (.bool true)], args := [d] }
  | _ => none }
def fnExactTaskValidRow : OpenClaim := { program := "ytfofjghcofjojaa", sum := "b10476907e98ce0bb45097fe760dd0051830c3b9b4553dae02f3af9b91de6016", func := "loop.example/switchpuzzles/laws.FnExactTaskValid", spec := "fnExactTaskValid", apart := false }
def FnExactTaskValidSaid : Prop := fnExactTaskValidRow.holds Try.pinned (OpenSpec.ofChange fnExactTaskValidSpec)

/-- ITS FALSE NEIGHBOUR: 'it returns false'. Refute it at one input. -/
def fnExactTaskValidWrong : ChangeSpec := { name := "fnExactTaskValid", fn := fun _ => fun
  | [d] => { results := [.lit (.bool false)], args := [d] }
  | _ => none }
def FnExactTaskValidWrongFalsely : Prop := fnExactTaskValidRow.holds Try.pinned (OpenSpec.ofChange fnExactTaskValidWrong)

/-- 'laws.FnExactPlanRun': WHATEVER THE INPUT: true; the input reads as it did. -/
def fnExactPlanRunSpec : ChangeSpec := { name := "fnExactPlanRun", fn := fun _ => fun
  | [d1, d2, d3] => { results := [.lit (.bool true)], args := [d1, d2, d3] }
  | _ => none }
def fnExactPlanRunRow : OpenClaim := { program := "ytfofjghcofjojaa", sum := "b10476907e98ce0bb45097fe760dd0051830c3b9b4553dae02f3af9b91de6016", func := "loop.example/switchpuzzles/laws.FnExactPlanRun", spec := "fnExactPlanRun", apart := false }
def FnExactPlanRunSaid : Prop := fnExactPlanRunRow.holds Try.pinned (OpenSpec.ofChange fnExactPlanRunSpec)

/-- ITS FALSE NEIGHBOUR: 'it returns false'. Refute it at one input. -/
def fnExactPlanRunWrong : ChangeSpec := { name := "fnExactPlanRun", fn := fun _ => fun
  | [d1, d2, d3] => { results := [.lit (.bool false)], args := [d1, d2, d3] }
  | _ => none }
def FnExactPlanRunWrongFalsely : Prop := fnExactPlanRunRow.holds Try.pinned (OpenSpec.ofChange fnExactPlanRunWrong)

/- THE SECOND FORM. 'bulk': how many values and letters a reading holds, each counted each time it is reached (what is shared counts as often as it is met; a slice's spare places count too). A statement '..UptoSaid' is the law's where the arguments, and the package variables that the reading takes, are together of bulk at most 1048576: NARROWER than '..Said'. Prove '..Said' where nothing that the law and all that it calls make is longer than what came in: it says more and counts as full. Else prove '..UptoSaid'. A law counts once. -/
mutual
def uptoBulk {H : Type} : DataW H → Nat
  | .lit (.string bytes) => bytes.length + 1
  | .lit _ => 1
  | .nil => 1
  | .ptr d => uptoBulk d + 1
  | .slice elems spare => uptoBulkAll elems + uptoBulkAll spare + 1
  | .agg parts => uptoBulkAll parts + 1
  | .iface _ d => uptoBulk d + 1
  | .map entries => uptoBulkEntries entries + 1
  | .held _ => 1
def uptoBulkAll {H : Type} : List (DataW H) → Nat
  | [] => 0
  | d :: r => uptoBulk d + uptoBulkAll r
def uptoBulkEntries {H : Type} : List (Lit × DataW H) → Nat
  | [] => 0
  | x :: r => uptoBulkEntry x + uptoBulkEntries r
def uptoBulkEntry {H : Type} : Lit × DataW H → Nat
  | (.string bytes, d) => bytes.length + uptoBulk d + 1
  | (_, d) => uptoBulk d + 1
 end
def uptoSmall : (H : Type) → List (DataW H) → Bool := fun _ ds => decide (uptoBulkAll ds ≤ 1048576)
def OpenSpec.upto (s : _root_.Go.ChangeSpec) : _root_.Go.OpenSpec := { _root_.Go.OpenSpec.ofChange s with cond := some uptoSmall }

/-- 'laws.FnExactCodeDepth', WHERE WHAT IT READS IS OF BULK AT MOST 1048576: true; the input reads as it did. -/
def fnExactCodeDepthUptoRow : OpenClaim := { program := "ytfofjghcofjojaa", sum := "b10476907e98ce0bb45097fe760dd0051830c3b9b4553dae02f3af9b91de6016", func := "loop.example/switchpuzzles/laws.FnExactCodeDepth", spec := "fnExactCodeDepth", apart := false, narrowed := true }
def FnExactCodeDepthUptoSaid : Prop := fnExactCodeDepthUptoRow.holds Try.pinned (OpenSpec.upto fnExactCodeDepthSpec)

/-- 'laws.FnExactCodeValid', WHERE WHAT IT READS IS OF BULK AT MOST 1048576: true; the input reads as it did. -/
def fnExactCodeValidUptoRow : OpenClaim := { program := "ytfofjghcofjojaa", sum := "b10476907e98ce0bb45097fe760dd0051830c3b9b4553dae02f3af9b91de6016", func := "loop.example/switchpuzzles/laws.FnExactCodeValid", spec := "fnExactCodeValid", apart := false, narrowed := true }
def FnExactCodeValidUptoSaid : Prop := fnExactCodeValidUptoRow.holds Try.pinned (OpenSpec.upto fnExactCodeValidSpec)

/-- 'laws.FnExactFactsNamed', WHERE WHAT IT READS IS OF BULK AT MOST 1048576: true; the input reads as it did. -/
def fnExactFactsNamedUptoRow : OpenClaim := { program := "ytfofjghcofjojaa", sum := "b10476907e98ce0bb45097fe760dd0051830c3b9b4553dae02f3af9b91de6016", func := "loop.example/switchpuzzles/laws.FnExactFactsNamed", spec := "fnExactFactsNamed", apart := false, narrowed := true }
def FnExactFactsNamedUptoSaid : Prop := fnExactFactsNamedUptoRow.holds Try.pinned (OpenSpec.upto fnExactFactsNamedSpec)

/-- 'laws.FnExactCodeJoin', WHERE WHAT IT READS IS OF BULK AT MOST 1048576: true; the input reads as it did. -/
def fnExactCodeJoinUptoRow : OpenClaim := { program := "ytfofjghcofjojaa", sum := "b10476907e98ce0bb45097fe760dd0051830c3b9b4553dae02f3af9b91de6016", func := "loop.example/switchpuzzles/laws.FnExactCodeJoin", spec := "fnExactCodeJoin", apart := false, narrowed := true }
def FnExactCodeJoinUptoSaid : Prop := fnExactCodeJoinUptoRow.holds Try.pinned (OpenSpec.upto fnExactCodeJoinSpec)

/-- 'laws.FnExactCodeRun', WHERE WHAT IT READS IS OF BULK AT MOST 1048576: true; the input reads as it did. -/
def fnExactCodeRunUptoRow : OpenClaim := { program := "ytfofjghcofjojaa", sum := "b10476907e98ce0bb45097fe760dd0051830c3b9b4553dae02f3af9b91de6016", func := "loop.example/switchpuzzles/laws.FnExactCodeRun", spec := "fnExactCodeRun", apart := false, narrowed := true }
def FnExactCodeRunUptoSaid : Prop := fnExactCodeRunUptoRow.holds Try.pinned (OpenSpec.upto fnExactCodeRunSpec)

/-- 'laws.FnExactDeedValid', WHERE WHAT IT READS IS OF BULK AT MOST 1048576: true; the input reads as it did. -/
def fnExactDeedValidUptoRow : OpenClaim := { program := "ytfofjghcofjojaa", sum := "b10476907e98ce0bb45097fe760dd0051830c3b9b4553dae02f3af9b91de6016", func := "loop.example/switchpuzzles/laws.FnExactDeedValid", spec := "fnExactDeedValid", apart := false, narrowed := true }
def FnExactDeedValidUptoSaid : Prop := fnExactDeedValidUptoRow.holds Try.pinned (OpenSpec.upto fnExactDeedValidSpec)

/-- 'laws.FnExactCodeTruth', WHERE WHAT IT READS IS OF BULK AT MOST 1048576: true; the input reads as it did. -/
def fnExactCodeTruthUptoRow : OpenClaim := { program := "ytfofjghcofjojaa", sum := "b10476907e98ce0bb45097fe760dd0051830c3b9b4553dae02f3af9b91de6016", func := "loop.example/switchpuzzles/laws.FnExactCodeTruth", spec := "fnExactCodeTruth", apart := false, narrowed := true }
def FnExactCodeTruthUptoSaid : Prop := fnExactCodeTruthUptoRow.holds Try.pinned (OpenSpec.upto fnExactCodeTruthSpec)

/-- 'laws.FnExactSameCode', WHERE WHAT IT READS IS OF BULK AT MOST 1048576: true; the input reads as it did. -/
def fnExactSameCodeUptoRow : OpenClaim := { program := "ytfofjghcofjojaa", sum := "b10476907e98ce0bb45097fe760dd0051830c3b9b4553dae02f3af9b91de6016", func := "loop.example/switchpuzzles/laws.FnExactSameCode", spec := "fnExactSameCode", apart := false, narrowed := true }
def FnExactSameCodeUptoSaid : Prop := fnExactSameCodeUptoRow.holds Try.pinned (OpenSpec.upto fnExactSameCodeSpec)

/-- 'laws.FnExactFactsMatter', WHERE WHAT IT READS IS OF BULK AT MOST 1048576: true; the input reads as it did. -/
def fnExactFactsMatterUptoRow : OpenClaim := { program := "ytfofjghcofjojaa", sum := "b10476907e98ce0bb45097fe760dd0051830c3b9b4553dae02f3af9b91de6016", func := "loop.example/switchpuzzles/laws.FnExactFactsMatter", spec := "fnExactFactsMatter", apart := false, narrowed := true }
def FnExactFactsMatterUptoSaid : Prop := fnExactFactsMatterUptoRow.holds Try.pinned (OpenSpec.upto fnExactFactsMatterSpec)

/-- 'laws.FnExactDeedDo', WHERE WHAT IT READS IS OF BULK AT MOST 1048576: true; the input reads as it did. -/
def fnExactDeedDoUptoRow : OpenClaim := { program := "ytfofjghcofjojaa", sum := "b10476907e98ce0bb45097fe760dd0051830c3b9b4553dae02f3af9b91de6016", func := "loop.example/switchpuzzles/laws.FnExactDeedDo", spec := "fnExactDeedDo", apart := false, narrowed := true }
def FnExactDeedDoUptoSaid : Prop := fnExactDeedDoUptoRow.holds Try.pinned (OpenSpec.upto fnExactDeedDoSpec)

/-- 'laws.FnExactTaskValid', WHERE WHAT IT READS IS OF BULK AT MOST 1048576: true; the input reads as it did. -/
def fnExactTaskValidUptoRow : OpenClaim := { program := "ytfofjghcofjojaa", sum := "b10476907e98ce0bb45097fe760dd0051830c3b9b4553dae02f3af9b91de6016", func := "loop.example/switchpuzzles/laws.FnExactTaskValid", spec := "fnExactTaskValid", apart := false, narrowed := true }
def FnExactTaskValidUptoSaid : Prop := fnExactTaskValidUptoRow.holds Try.pinned (OpenSpec.upto fnExactTaskValidSpec)

/-- 'laws.FnExactPlanRun', WHERE WHAT IT READS IS OF BULK AT MOST 1048576: true; the input reads as it did. -/
def fnExactPlanRunUptoRow : OpenClaim := { program := "ytfofjghcofjojaa", sum := "b10476907e98ce0bb45097fe760dd0051830c3b9b4553dae02f3af9b91de6016", func := "loop.example/switchpuzzles/laws.FnExactPlanRun", spec := "fnExactPlanRun", apart := false, narrowed := true }
def FnExactPlanRunUptoSaid : Prop := fnExactPlanRunUptoRow.holds Try.pinned (OpenSpec.upto fnExactPlanRunSpec)

end Rows
end Go.Proofs.Ytfofjghcofjojaa
