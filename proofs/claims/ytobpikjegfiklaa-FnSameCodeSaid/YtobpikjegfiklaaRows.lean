/-
  No cell of these rows narrows 'for every input' (looked for: loops, veiled, ifaces, maps, wideKeys, modest, calm, conditions, laid).
  DERIVED. THE GIVEN ROWS OF THIS SEAT. 11 by the template 'for every input the law returns true; each argument reads behind the call as it read before'; 0 by the template 'total and deterministic' (their statements: YtobpikjegfiklaaTotals.lean).
  GIVEN WITH THE SEED: the statements are not yours to turn. If you find one false, say at which input.
  Laid BY PROGRAM, IN A SANDBOX (cutbox-rows.mjs): the forced cells as the released guide's own fill.sh prints them over the translation 93b43867c1fc7aed… (all of the seat's roots in one cut). By AI agents, Wed Nov 11 2026. No macro, syntax, notation, axiom, sorry.
-/
import Derived.Test.YtobpikjegfiklaaChecked
import GoSem.Claim
import GoSem.ClaimJoined
import GoSem.ClaimMapViews
import Derived.JoinedTies
import Derived.KernelRfl
namespace Go.Proofs.Ytobpikjegfiklaa
/- THE CELL 'sum', in the pinned program and in every row, IS THE sha256 OF THE DUMP (.gsa) THAT YtobpikjegfiklaaProg.lean LOADS. Nothing in Lean hashes anything: it is a label: what it is worth is what the hold of that sum in a sandbox is worth. -/
noncomputable def Try.pinned : Pinned := { name := "ytobpikjegfiklaa", sum := "93b43867c1fc7aed46cf36f382c3caff8a2a62de31fbe105fcce8fcc9c3145a0", checked := Try.checked }
namespace Rows
def none {H : Type} : Left H := { results := [], args := [] }

/-- 'laws.FnCodeDepth': WHATEVER THE INPUT: true; the input reads as it did. -/
def fnCodeDepthSpec : ChangeSpec := { name := "fnCodeDepth", fn := fun _ => fun
  | [d] => { results := [.lit (.bool true)], args := [d] }
  | _ => none }
def fnCodeDepthRow : OpenClaim := { program := "ytobpikjegfiklaa", sum := "93b43867c1fc7aed46cf36f382c3caff8a2a62de31fbe105fcce8fcc9c3145a0", func := "loop.example/switchpuzzles/laws.FnCodeDepth", spec := "fnCodeDepth", apart := false }
def FnCodeDepthSaid : Prop := fnCodeDepthRow.holds Try.pinned (OpenSpec.ofChange fnCodeDepthSpec)

/-- ITS FALSE NEIGHBOUR: 'it returns false'. Refute it at one input. -/
def fnCodeDepthWrong : ChangeSpec := { name := "fnCodeDepth", fn := fun _ => fun
  | [d] => { results := [.lit (.bool false)], args := [d] }
  | _ => none }
def FnCodeDepthWrongFalsely : Prop := fnCodeDepthRow.holds Try.pinned (OpenSpec.ofChange fnCodeDepthWrong)

/-- 'laws.FnCodeValid': WHATEVER THE INPUT: true; the input reads as it did. -/
def fnCodeValidSpec : ChangeSpec := { name := "fnCodeValid", fn := fun _ => fun
  | [d] => { results := [.lit (.bool true)], args := [d] }
  | _ => none }
def fnCodeValidRow : OpenClaim := { program := "ytobpikjegfiklaa", sum := "93b43867c1fc7aed46cf36f382c3caff8a2a62de31fbe105fcce8fcc9c3145a0", func := "loop.example/switchpuzzles/laws.FnCodeValid", spec := "fnCodeValid", apart := false }
def FnCodeValidSaid : Prop := fnCodeValidRow.holds Try.pinned (OpenSpec.ofChange fnCodeValidSpec)

/-- ITS FALSE NEIGHBOUR: 'it returns false'. Refute it at one input. -/
def fnCodeValidWrong : ChangeSpec := { name := "fnCodeValid", fn := fun _ => fun
  | [d] => { results := [.lit (.bool false)], args := [d] }
  | _ => none }
def FnCodeValidWrongFalsely : Prop := fnCodeValidRow.holds Try.pinned (OpenSpec.ofChange fnCodeValidWrong)

/-- 'laws.FnDeedValid': WHATEVER THE INPUT: true; the input reads as it did. -/
def fnDeedValidSpec : ChangeSpec := { name := "fnDeedValid", fn := fun _ => fun
  | [d] => { results := [.lit (.bool true)], args := [d] }
  | _ => none }
def fnDeedValidRow : OpenClaim := { program := "ytobpikjegfiklaa", sum := "93b43867c1fc7aed46cf36f382c3caff8a2a62de31fbe105fcce8fcc9c3145a0", func := "loop.example/switchpuzzles/laws.FnDeedValid", spec := "fnDeedValid", apart := false }
def FnDeedValidSaid : Prop := fnDeedValidRow.holds Try.pinned (OpenSpec.ofChange fnDeedValidSpec)

/-- ITS FALSE NEIGHBOUR: 'it returns false'. Refute it at one input. -/
def fnDeedValidWrong : ChangeSpec := { name := "fnDeedValid", fn := fun _ => fun
  | [d] => { results := [.lit (.bool false)], args := [d] }
  | _ => none }
def FnDeedValidWrongFalsely : Prop := fnDeedValidRow.holds Try.pinned (OpenSpec.ofChange fnDeedValidWrong)

/-- 'laws.FnCodeTruth': WHATEVER THE INPUT: true; the input reads as it did. -/
def fnCodeTruthSpec : ChangeSpec := { name := "fnCodeTruth", fn := fun _ => fun
  | [d] => { results := [.lit (.bool true)], args := [d] }
  | _ => none }
def fnCodeTruthRow : OpenClaim := { program := "ytobpikjegfiklaa", sum := "93b43867c1fc7aed46cf36f382c3caff8a2a62de31fbe105fcce8fcc9c3145a0", func := "loop.example/switchpuzzles/laws.FnCodeTruth", spec := "fnCodeTruth", apart := false }
def FnCodeTruthSaid : Prop := fnCodeTruthRow.holds Try.pinned (OpenSpec.ofChange fnCodeTruthSpec)

/-- ITS FALSE NEIGHBOUR: 'it returns false'. Refute it at one input. -/
def fnCodeTruthWrong : ChangeSpec := { name := "fnCodeTruth", fn := fun _ => fun
  | [d] => { results := [.lit (.bool false)], args := [d] }
  | _ => none }
def FnCodeTruthWrongFalsely : Prop := fnCodeTruthRow.holds Try.pinned (OpenSpec.ofChange fnCodeTruthWrong)

/-- 'laws.FnTaskValid': WHATEVER THE INPUT: true; the input reads as it did. -/
def fnTaskValidSpec : ChangeSpec := { name := "fnTaskValid", fn := fun _ => fun
  | [d] => { results := [.lit (.bool true)], args := [d] }
  | _ => none }
def fnTaskValidRow : OpenClaim := { program := "ytobpikjegfiklaa", sum := "93b43867c1fc7aed46cf36f382c3caff8a2a62de31fbe105fcce8fcc9c3145a0", func := "loop.example/switchpuzzles/laws.FnTaskValid", spec := "fnTaskValid", apart := false }
def FnTaskValidSaid : Prop := fnTaskValidRow.holds Try.pinned (OpenSpec.ofChange fnTaskValidSpec)

/-- ITS FALSE NEIGHBOUR: 'it returns false'. Refute it at one input. -/
def fnTaskValidWrong : ChangeSpec := { name := "fnTaskValid", fn := fun _ => fun
  | [d] => { results := [.lit (.bool false)], args := [d] }
  | _ => none }
def FnTaskValidWrongFalsely : Prop := fnTaskValidRow.holds Try.pinned (OpenSpec.ofChange fnTaskValidWrong)

/-- 'laws.FnCodeJoin': WHATEVER THE INPUT: true; the input reads as it did. -/
def fnCodeJoinSpec : ChangeSpec := { name := "fnCodeJoin", fn := fun _ => fun
  | [d] => { results := [.lit (.bool true)], args := [d] }
  | _ => none }
def fnCodeJoinRow : OpenClaim := { program := "ytobpikjegfiklaa", sum := "93b43867c1fc7aed46cf36f382c3caff8a2a62de31fbe105fcce8fcc9c3145a0", func := "loop.example/switchpuzzles/laws.FnCodeJoin", spec := "fnCodeJoin", apart := false }
def FnCodeJoinSaid : Prop := fnCodeJoinRow.holds Try.pinned (OpenSpec.ofChange fnCodeJoinSpec)

/-- ITS FALSE NEIGHBOUR: 'it returns false'. Refute it at one input. -/
def fnCodeJoinWrong : ChangeSpec := { name := "fnCodeJoin", fn := fun _ => fun
  | [d] => { results := [.lit (.bool false)], args := [d] }
  | _ => none }
def FnCodeJoinWrongFalsely : Prop := fnCodeJoinRow.holds Try.pinned (OpenSpec.ofChange fnCodeJoinWrong)

/-- 'laws.FnFactsMatter': WHATEVER THE INPUT: true; the input reads as it did. -/
def fnFactsMatterSpec : ChangeSpec := { name := "fnFactsMatter", fn := fun _ => fun
  | [d] => { results := [.lit (.bool true)], args := [d] }
  | _ => none }
def fnFactsMatterRow : OpenClaim := { program := "ytobpikjegfiklaa", sum := "93b43867c1fc7aed46cf36f382c3caff8a2a62de31fbe105fcce8fcc9c3145a0", func := "loop.example/switchpuzzles/laws.FnFactsMatter", spec := "fnFactsMatter", apart := false }
def FnFactsMatterSaid : Prop := fnFactsMatterRow.holds Try.pinned (OpenSpec.ofChange fnFactsMatterSpec)

/-- ITS FALSE NEIGHBOUR: 'it returns false'. Refute it at one input. -/
def fnFactsMatterWrong : ChangeSpec := { name := "fnFactsMatter", fn := fun _ => fun
  | [d] => { results := [.lit (.bool false)], args := [d] }
  | _ => none }
def FnFactsMatterWrongFalsely : Prop := fnFactsMatterRow.holds Try.pinned (OpenSpec.ofChange fnFactsMatterWrong)

/-- 'laws.FnDeedDo': WHATEVER THE INPUT: true; the input reads as it did. -/
def fnDeedDoSpec : ChangeSpec := { name := "fnDeedDo", fn := fun _ => fun
  | [d] => { results := [.lit (.bool true)], args := [d] }
  | _ => none }
def fnDeedDoRow : OpenClaim := { program := "ytobpikjegfiklaa", sum := "93b43867c1fc7aed46cf36f382c3caff8a2a62de31fbe105fcce8fcc9c3145a0", func := "loop.example/switchpuzzles/laws.FnDeedDo", spec := "fnDeedDo", apart := false }
def FnDeedDoSaid : Prop := fnDeedDoRow.holds Try.pinned (OpenSpec.ofChange fnDeedDoSpec)

/-- ITS FALSE NEIGHBOUR: 'it returns false'. Refute it at one input. -/
def fnDeedDoWrong : ChangeSpec := { name := "fnDeedDo", fn := fun _ => fun
  | [d] => { results := [.lit (.bool false)], args := [d] }
  | _ => none }
def FnDeedDoWrongFalsely : Prop := fnDeedDoRow.holds Try.pinned (OpenSpec.ofChange fnDeedDoWrong)

/-- 'laws.FnSameCode': WHATEVER THE INPUT: true; the input reads as it did. -/
def fnSameCodeSpec : ChangeSpec := { name := "fnSameCode", fn := fun _ => fun
  | [d] => { results := [.lit (.bool true)], args := [d] }
  | _ => none }
def fnSameCodeRow : OpenClaim := { program := "ytobpikjegfiklaa", sum := "93b43867c1fc7aed46cf36f382c3caff8a2a62de31fbe105fcce8fcc9c3145a0", func := "loop.example/switchpuzzles/laws.FnSameCode", spec := "fnSameCode", recurses := true, apart := false }
def FnSameCodeSaid : Prop := fnSameCodeRow.holds Try.pinned (OpenSpec.ofChange fnSameCodeSpec)

/-- ITS FALSE NEIGHBOUR: 'it returns false'. Refute it at one input. -/
def fnSameCodeWrong : ChangeSpec := { name := "fnSameCode", fn := fun _ => fun
  | [d] => { results := [.lit (.bool false)], args := [d] }
  | _ => none }
def FnSameCodeWrongFalsely : Prop := fnSameCodeRow.holds Try.pinned (OpenSpec.ofChange fnSameCodeWrong)

/-- 'laws.FnDeedsMay': WHATEVER THE INPUT: true; the input reads as it did. -/
def fnDeedsMaySpec : ChangeSpec := { name := "fnDeedsMay", fn := fun _ => fun
  | [d] => { results := [.lit (.bool true)], args := [d] }
  | _ => none }
def fnDeedsMayRow : OpenClaim := { program := "ytobpikjegfiklaa", sum := "93b43867c1fc7aed46cf36f382c3caff8a2a62de31fbe105fcce8fcc9c3145a0", func := "loop.example/switchpuzzles/laws.FnDeedsMay", spec := "fnDeedsMay", apart := false }
def FnDeedsMaySaid : Prop := fnDeedsMayRow.holds Try.pinned (OpenSpec.ofChange fnDeedsMaySpec)

/-- ITS FALSE NEIGHBOUR: 'it returns false'. Refute it at one input. -/
def fnDeedsMayWrong : ChangeSpec := { name := "fnDeedsMay", fn := fun _ => fun
  | [d] => { results := [.lit (.bool false)], args := [d] }
  | _ => none }
def FnDeedsMayWrongFalsely : Prop := fnDeedsMayRow.holds Try.pinned (OpenSpec.ofChange fnDeedsMayWrong)

/-- 'laws.FnStatesBack': WHATEVER THE INPUT: true; the input reads as it did. -/
def fnStatesBackSpec : ChangeSpec := { name := "fnStatesBack", fn := fun _ => fun
  | [d] => { results := [.lit (.bool true)], args := [d] }
  | _ => none }
def fnStatesBackRow : OpenClaim := { program := "ytobpikjegfiklaa", sum := "93b43867c1fc7aed46cf36f382c3caff8a2a62de31fbe105fcce8fcc9c3145a0", func := "loop.example/switchpuzzles/laws.FnStatesBack", spec := "fnStatesBack", apart := false }
def FnStatesBackSaid : Prop := fnStatesBackRow.holds Try.pinned (OpenSpec.ofChange fnStatesBackSpec)

/-- ITS FALSE NEIGHBOUR: 'it returns false'. Refute it at one input. -/
def fnStatesBackWrong : ChangeSpec := { name := "fnStatesBack", fn := fun _ => fun
  | [d] => { results := [.lit (.bool false)], args := [d] }
  | _ => none }
def FnStatesBackWrongFalsely : Prop := fnStatesBackRow.holds Try.pinned (OpenSpec.ofChange fnStatesBackWrong)

/- THE SECOND FORM. 'bulk': how many values and letters a reading holds, each counted each time it is reached (what is shared counts as often as it is met; a slice's spare places count too). A statement '..UptoSaid' is the law's where the arguments, and the package variables that the reading takes, are together of bulk at most 1048576: NARROWER than '..Said'. Prove '..Said' where nothing that the law and all that it calls make is longer than what came in: it says more and counts as full. Else prove '..UptoSaid'. A law counts once. -/
mutual
def uptoBulk {H : Type} : DataW H → Nat
  | .lit (.string bytes) => bytes.length + 1
  | .lit _ => 1
  | .nil => 1
  | .ptr d => uptoBulk d + 1
  | .slice elems spare => uptoBulkAll elems + uptoBulkAll spare + 1
  | .agg parts => uptoBulkAll parts + 1
  | .iface _ d => uptoBulk d + 1
  | .map entries => uptoBulkEntries entries + 1
  | .held _ => 1
def uptoBulkAll {H : Type} : List (DataW H) → Nat
  | [] => 0
  | d :: r => uptoBulk d + uptoBulkAll r
def uptoBulkEntries {H : Type} : List (Lit × DataW H) → Nat
  | [] => 0
  | x :: r => uptoBulkEntry x + uptoBulkEntries r
def uptoBulkEntry {H : Type} : Lit × DataW H → Nat
  | (.string bytes, d) => bytes.length + uptoBulk d + 1
  | (_, d) => uptoBulk d + 1
 end
def uptoSmall : (H : Type) → List (DataW H) → Bool := fun _ ds => decide (uptoBulkAll ds ≤ 1048576)
def OpenSpec.upto (s : _root_.Go.ChangeSpec) : _root_.Go.OpenSpec := { _root_.Go.OpenSpec.ofChange s with cond := some uptoSmall }

/-- 'laws.FnCodeDepth', WHERE WHAT IT READS IS OF BULK AT MOST 1048576: true; the input reads as it did. -/
def fnCodeDepthUptoRow : OpenClaim := { program := "ytobpikjegfiklaa", sum := "93b43867c1fc7aed46cf36f382c3caff8a2a62de31fbe105fcce8fcc9c3145a0", func := "loop.example/switchpuzzles/laws.FnCodeDepth", spec := "fnCodeDepth", apart := false, narrowed := true }
def FnCodeDepthUptoSaid : Prop := fnCodeDepthUptoRow.holds Try.pinned (OpenSpec.upto fnCodeDepthSpec)

/-- 'laws.FnCodeValid', WHERE WHAT IT READS IS OF BULK AT MOST 1048576: true; the input reads as it did. -/
def fnCodeValidUptoRow : OpenClaim := { program := "ytobpikjegfiklaa", sum := "93b43867c1fc7aed46cf36f382c3caff8a2a62de31fbe105fcce8fcc9c3145a0", func := "loop.example/switchpuzzles/laws.FnCodeValid", spec := "fnCodeValid", apart := false, narrowed := true }
def FnCodeValidUptoSaid : Prop := fnCodeValidUptoRow.holds Try.pinned (OpenSpec.upto fnCodeValidSpec)

/-- 'laws.FnDeedValid', WHERE WHAT IT READS IS OF BULK AT MOST 1048576: true; the input reads as it did. -/
def fnDeedValidUptoRow : OpenClaim := { program := "ytobpikjegfiklaa", sum := "93b43867c1fc7aed46cf36f382c3caff8a2a62de31fbe105fcce8fcc9c3145a0", func := "loop.example/switchpuzzles/laws.FnDeedValid", spec := "fnDeedValid", apart := false, narrowed := true }
def FnDeedValidUptoSaid : Prop := fnDeedValidUptoRow.holds Try.pinned (OpenSpec.upto fnDeedValidSpec)

/-- 'laws.FnCodeTruth', WHERE WHAT IT READS IS OF BULK AT MOST 1048576: true; the input reads as it did. -/
def fnCodeTruthUptoRow : OpenClaim := { program := "ytobpikjegfiklaa", sum := "93b43867c1fc7aed46cf36f382c3caff8a2a62de31fbe105fcce8fcc9c3145a0", func := "loop.example/switchpuzzles/laws.FnCodeTruth", spec := "fnCodeTruth", apart := false, narrowed := true }
def FnCodeTruthUptoSaid : Prop := fnCodeTruthUptoRow.holds Try.pinned (OpenSpec.upto fnCodeTruthSpec)

/-- 'laws.FnTaskValid', WHERE WHAT IT READS IS OF BULK AT MOST 1048576: true; the input reads as it did. -/
def fnTaskValidUptoRow : OpenClaim := { program := "ytobpikjegfiklaa", sum := "93b43867c1fc7aed46cf36f382c3caff8a2a62de31fbe105fcce8fcc9c3145a0", func := "loop.example/switchpuzzles/laws.FnTaskValid", spec := "fnTaskValid", apart := false, narrowed := true }
def FnTaskValidUptoSaid : Prop := fnTaskValidUptoRow.holds Try.pinned (OpenSpec.upto fnTaskValidSpec)

/-- 'laws.FnCodeJoin', WHERE WHAT IT READS IS OF BULK AT MOST 1048576: true; the input reads as it did. -/
def fnCodeJoinUptoRow : OpenClaim := { program := "ytobpikjegfiklaa", sum := "93b43867c1fc7aed46cf36f382c3caff8a2a62de31fbe105fcce8fcc9c3145a0", func := "loop.example/switchpuzzles/laws.FnCodeJoin", spec := "fnCodeJoin", apart := false, narrowed := true }
def FnCodeJoinUptoSaid : Prop := fnCodeJoinUptoRow.holds Try.pinned (OpenSpec.upto fnCodeJoinSpec)

/-- 'laws.FnFactsMatter', WHERE WHAT IT READS IS OF BULK AT MOST 1048576: true; the input reads as it did. -/
def fnFactsMatterUptoRow : OpenClaim := { program := "ytobpikjegfiklaa", sum := "93b43867c1fc7aed46cf36f382c3caff8a2a62de31fbe105fcce8fcc9c3145a0", func := "loop.example/switchpuzzles/laws.FnFactsMatter", spec := "fnFactsMatter", apart := false, narrowed := true }
def FnFactsMatterUptoSaid : Prop := fnFactsMatterUptoRow.holds Try.pinned (OpenSpec.upto fnFactsMatterSpec)

/-- 'laws.FnDeedDo', WHERE WHAT IT READS IS OF BULK AT MOST 1048576: true; the input reads as it did. -/
def fnDeedDoUptoRow : OpenClaim := { program := "ytobpikjegfiklaa", sum := "93b43867c1fc7aed46cf36f382c3caff8a2a62de31fbe105fcce8fcc9c3145a0", func := "loop.example/switchpuzzles/laws.FnDeedDo", spec := "fnDeedDo", apart := false, narrowed := true }
def FnDeedDoUptoSaid : Prop := fnDeedDoUptoRow.holds Try.pinned (OpenSpec.upto fnDeedDoSpec)

/-- 'laws.FnSameCode', WHERE WHAT IT READS IS OF BULK AT MOST 1048576: true; the input reads as it did. -/
def fnSameCodeUptoRow : OpenClaim := { program := "ytobpikjegfiklaa", sum := "93b43867c1fc7aed46cf36f382c3caff8a2a62de31fbe105fcce8fcc9c3145a0", func := "loop.example/switchpuzzles/laws.FnSameCode", spec := "fnSameCode", recurses := true, apart := false, narrowed := true }
def FnSameCodeUptoSaid : Prop := fnSameCodeUptoRow.holds Try.pinned (OpenSpec.upto fnSameCodeSpec)

/-- 'laws.FnDeedsMay', WHERE WHAT IT READS IS OF BULK AT MOST 1048576: true; the input reads as it did. -/
def fnDeedsMayUptoRow : OpenClaim := { program := "ytobpikjegfiklaa", sum := "93b43867c1fc7aed46cf36f382c3caff8a2a62de31fbe105fcce8fcc9c3145a0", func := "loop.example/switchpuzzles/laws.FnDeedsMay", spec := "fnDeedsMay", apart := false, narrowed := true }
def FnDeedsMayUptoSaid : Prop := fnDeedsMayUptoRow.holds Try.pinned (OpenSpec.upto fnDeedsMaySpec)

/-- 'laws.FnStatesBack', WHERE WHAT IT READS IS OF BULK AT MOST 1048576: true; the input reads as it did. -/
def fnStatesBackUptoRow : OpenClaim := { program := "ytobpikjegfiklaa", sum := "93b43867c1fc7aed46cf36f382c3caff8a2a62de31fbe105fcce8fcc9c3145a0", func := "loop.example/switchpuzzles/laws.FnStatesBack", spec := "fnStatesBack", apart := false, narrowed := true }
def FnStatesBackUptoSaid : Prop := fnStatesBackUptoRow.holds Try.pinned (OpenSpec.upto fnStatesBackSpec)

end Rows
end Go.Proofs.Ytobpikjegfiklaa
