/-
  No cell of these rows narrows 'for every input' (looked for: loops, veiled, ifaces, maps, wideKeys, modest, calm, conditions, laid).
  DERIVED. THE GIVEN ROWS OF THIS SEAT. 10 by the template 'for every input the law returns true; each argument reads behind the call as it read before'; 0 by the template 'total and deterministic' (their statements: YtballcjfgdolbaaTotals.lean).
  GIVEN WITH THE SEED: the statements are not yours to turn. If you find one false, say at which input.
  Laid BY PROGRAM, IN A SANDBOX (cutbox-rows.mjs): the forced cells as the released guide's own fill.sh prints them over the translation 97378f5278f23cd3… (all of the seat's roots in one cut). By AI agents, Wed Nov 11 2026. No macro, syntax, notation, axiom, sorry.
-/
import Derived.Test.YtballcjfgdolbaaChecked
import GoSem.Claim
import GoSem.ClaimJoined
import GoSem.ClaimMapViews
import Derived.JoinedTies
import Derived.KernelRfl
namespace Go.Proofs.Ytballcjfgdolbaa
/- THE CELL 'sum', in the pinned program and in every row, IS THE sha256 OF THE DUMP (.gsa) THAT YtballcjfgdolbaaProg.lean LOADS. Nothing in Lean hashes anything: it is a label: what it is worth is what the hold of that sum in a sandbox is worth. -/
noncomputable def Try.pinned : Pinned := { name := "ytballcjfgdolbaa", sum := "97378f5278f23cd34b59163c395b6e9fa309c92515d95ed60a817a4c00d9cbd4", checked := Try.checked }
namespace Rows
def none {H : Type} : Left H := { results := [], args := [] }

/-- 'laws.FnExactCodeText': WHATEVER THE INPUT: true; the input reads as it did. -/
def fnExactCodeTextSpec : ChangeSpec := { name := "fnExactCodeText", fn := fun _ => fun
  | [d] => { results := [.lit (.bool true)], args := [d] }
  | _ => none }
def fnExactCodeTextRow : OpenClaim := { program := "ytballcjfgdolbaa", sum := "97378f5278f23cd34b59163c395b6e9fa309c92515d95ed60a817a4c00d9cbd4", func := "loop.example/switchpuzzles/laws.FnExactCodeText", spec := "fnExactCodeText", recurses := true, apart := false }
def FnExactCodeTextSaid : Prop := fnExactCodeTextRow.holds Try.pinned (OpenSpec.ofChange fnExactCodeTextSpec)

/-- ITS FALSE NEIGHBOUR: 'it returns false'. Refute it at one input. -/
def fnExactCodeTextWrong : ChangeSpec := { name := "fnExactCodeText", fn := fun _ => fun
  | [d] => { results := [.lit (.bool false)], args := [d] }
  | _ => none }
def FnExactCodeTextWrongFalsely : Prop := fnExactCodeTextRow.holds Try.pinned (OpenSpec.ofChange fnExactCodeTextWrong)

/-- 'laws.FnExactCodePush': WHATEVER THE INPUT: true; the input reads as it did. -/
def fnExactCodePushSpec : ChangeSpec := { name := "fnExactCodePush", fn := fun _ => fun
  | [d] => { results := [.lit (.bool true)], args := [d] }
  | _ => none }
def fnExactCodePushRow : OpenClaim := { program := "ytballcjfgdolbaa", sum := "97378f5278f23cd34b59163c395b6e9fa309c92515d95ed60a817a4c00d9cbd4", func := "loop.example/switchpuzzles/laws.FnExactCodePush", spec := "fnExactCodePush", unfollowed := true, recurses := true, apart := false }
def FnExactCodePushSaid : Prop := fnExactCodePushRow.holds Try.pinned (OpenSpec.ofChange fnExactCodePushSpec)

/-- ITS FALSE NEIGHBOUR: 'it returns false'. Refute it at one input. -/
def fnExactCodePushWrong : ChangeSpec := { name := "fnExactCodePush", fn := fun _ => fun
  | [d] => { results := [.lit (.bool false)], args := [d] }
  | _ => none }
def FnExactCodePushWrongFalsely : Prop := fnExactCodePushRow.holds Try.pinned (OpenSpec.ofChange fnExactCodePushWrong)

/-- 'laws.FnExactReadCode': WHATEVER THE INPUT: true; the input reads as it did. -/
def fnExactReadCodeSpec : ChangeSpec := { name := "fnExactReadCode", fn := fun _ => fun
  | [d] => { results := [.lit (.bool true)], args := [d] }
  | _ => none }
def fnExactReadCodeRow : OpenClaim := { program := "ytballcjfgdolbaa", sum := "97378f5278f23cd34b59163c395b6e9fa309c92515d95ed60a817a4c00d9cbd4", func := "loop.example/switchpuzzles/laws.FnExactReadCode", spec := "fnExactReadCode", recurses := true, apart := false }
def FnExactReadCodeSaid : Prop := fnExactReadCodeRow.holds Try.pinned (OpenSpec.ofChange fnExactReadCodeSpec)

/-- ITS FALSE NEIGHBOUR: 'it returns false'. Refute it at one input. -/
def fnExactReadCodeWrong : ChangeSpec := { name := "fnExactReadCode", fn := fun _ => fun
  | [d] => { results := [.lit (.bool false)], args := [d] }
  | _ => none }
def FnExactReadCodeWrongFalsely : Prop := fnExactReadCodeRow.holds Try.pinned (OpenSpec.ofChange fnExactReadCodeWrong)

/-- 'laws.FnExactCodeSimple': WHATEVER THE INPUT: true; the input reads as it did. -/
def fnExactCodeSimpleSpec : ChangeSpec := { name := "fnExactCodeSimple", fn := fun _ => fun
  | [d] => { results := [.lit (.bool true)], args := [d] }
  | _ => none }
def fnExactCodeSimpleRow : OpenClaim := { program := "ytballcjfgdolbaa", sum := "97378f5278f23cd34b59163c395b6e9fa309c92515d95ed60a817a4c00d9cbd4", func := "loop.example/switchpuzzles/laws.FnExactCodeSimple", spec := "fnExactCodeSimple", unfollowed := true, recurses := true, apart := false }
def FnExactCodeSimpleSaid : Prop := fnExactCodeSimpleRow.holds Try.pinned (OpenSpec.ofChange fnExactCodeSimpleSpec)

/-- ITS FALSE NEIGHBOUR: 'it returns false'. Refute it at one input. -/
def fnExactCodeSimpleWrong : ChangeSpec := { name := "fnExactCodeSimple", fn := fun _ => fun
  | [d] => { results := [.lit (.bool false)], args := [d] }
  | _ => none }
def FnExactCodeSimpleWrongFalsely : Prop := fnExactCodeSimpleRow.holds Try.pinned (OpenSpec.ofChange fnExactCodeSimpleWrong)

/-- 'laws.FnExactPlanOk': WHATEVER THE INPUT: true; the input reads as it did. -/
def fnExactPlanOkSpec : ChangeSpec := { name := "fnExactPlanOk", fn := fun _ => fun
  | [d1, d2] => { results := [.lit (.bool true)], args := [d1, d2] }
  | _ => none }
def fnExactPlanOkRow : OpenClaim := { program := "ytballcjfgdolbaa", sum := "97378f5278f23cd34b59163c395b6e9fa309c92515d95ed60a817a4c00d9cbd4", func := "loop.example/switchpuzzles/laws.FnExactPlanOk", spec := "fnExactPlanOk", apart := false }
def FnExactPlanOkSaid : Prop := fnExactPlanOkRow.holds Try.pinned (OpenSpec.ofChange fnExactPlanOkSpec)

/-- ITS FALSE NEIGHBOUR: 'it returns false'. Refute it at one input. -/
def fnExactPlanOkWrong : ChangeSpec := { name := "fnExactPlanOk", fn := fun _ => fun
  | [d1, d2] => { results := [.lit (.bool false)], args := [d1, d2] }
  | _ => none }
def FnExactPlanOkWrongFalsely : Prop := fnExactPlanOkRow.holds Try.pinned (OpenSpec.ofChange fnExactPlanOkWrong)

/-- 'laws.FnExactStatesBack': WHATEVER THE INPUT: true; the input reads as it did. -/
def fnExactStatesBackSpec : ChangeSpec := { name := "fnExactStatesBack", fn := fun _ => fun
  | [d1, d2] => { results := [.lit (.bool true)], args := [d1, d2] }
  | _ => none }
def fnExactStatesBackRow : OpenClaim := { program := "ytballcjfgdolbaa", sum := "97378f5278f23cd34b59163c395b6e9fa309c92515d95ed60a817a4c00d9cbd4", func := "loop.example/switchpuzzles/laws.FnExactStatesBack", spec := "fnExactStatesBack", apart := false }
def FnExactStatesBackSaid : Prop := fnExactStatesBackRow.holds Try.pinned (OpenSpec.ofChange fnExactStatesBackSpec)

/-- ITS FALSE NEIGHBOUR: 'it returns false'. Refute it at one input. -/
def fnExactStatesBackWrong : ChangeSpec := { name := "fnExactStatesBack", fn := fun _ => fun
  | [d1, d2] => { results := [.lit (.bool false)], args := [d1, d2] }
  | _ => none }
def FnExactStatesBackWrongFalsely : Prop := fnExactStatesBackRow.holds Try.pinned (OpenSpec.ofChange fnExactStatesBackWrong)

/-- 'laws.FnExactStatesNext': WHATEVER THE INPUT: true; the input reads as it did. -/
def fnExactStatesNextSpec : ChangeSpec := { name := "fnExactStatesNext", fn := fun _ => fun
  | [d1, d2] => { results := [.lit (.bool true)], args := [d1, d2] }
  | _ => none }
def fnExactStatesNextRow : OpenClaim := { program := "ytballcjfgdolbaa", sum := "97378f5278f23cd34b59163c395b6e9fa309c92515d95ed60a817a4c00d9cbd4", func := "loop.example/switchpuzzles/laws.FnExactStatesNext", spec := "fnExactStatesNext", apart := false }
def FnExactStatesNextSaid : Prop := fnExactStatesNextRow.holds Try.pinned (OpenSpec.ofChange fnExactStatesNextSpec)

/-- ITS FALSE NEIGHBOUR: 'it returns false'. Refute it at one input. -/
def fnExactStatesNextWrong : ChangeSpec := { name := "fnExactStatesNext", fn := fun _ => fun
  | [d1, d2] => { results := [.lit (.bool false)], args := [d1, d2] }
  | _ => none }
def FnExactStatesNextWrongFalsely : Prop := fnExactStatesNextRow.holds Try.pinned (OpenSpec.ofChange fnExactStatesNextWrong)

/-- 'laws.FnExactDeedsMay': WHATEVER THE INPUT: true; the input reads as it did. -/
def fnExactDeedsMaySpec : ChangeSpec := { name := "fnExactDeedsMay", fn := fun _ => fun
  | [d1, d2] => { results := [.lit (.bool true)], args := [d1, d2] }
  | _ => none }
def fnExactDeedsMayRow : OpenClaim := { program := "ytballcjfgdolbaa", sum := "97378f5278f23cd34b59163c395b6e9fa309c92515d95ed60a817a4c00d9cbd4", func := "loop.example/switchpuzzles/laws.FnExactDeedsMay", spec := "fnExactDeedsMay", apart := false }
def FnExactDeedsMaySaid : Prop := fnExactDeedsMayRow.holds Try.pinned (OpenSpec.ofChange fnExactDeedsMaySpec)

/-- ITS FALSE NEIGHBOUR: 'it returns false'. Refute it at one input. -/
def fnExactDeedsMayWrong : ChangeSpec := { name := "fnExactDeedsMay", fn := fun _ => fun
  | [d1, d2] => { results := [.lit (.bool false)], args := [d1, d2] }
  | _ => none }
def FnExactDeedsMayWrongFalsely : Prop := fnExactDeedsMayRow.holds Try.pinned (OpenSpec.ofChange fnExactDeedsMayWrong)

/-- 'laws.FnExactReached': WHATEVER THE INPUT: true; the input reads as it did. -/
def fnExactReachedSpec : ChangeSpec := { name := "fnExactReached", fn := fun _ => fun
  | [d] => { results := [.lit (.bool true)], args := [d] }
  | _ => none }
def fnExactReachedRow : OpenClaim := { program := "ytballcjfgdolbaa", sum := "97378f5278f23cd34b59163c395b6e9fa309c92515d95ed60a817a4c00d9cbd4", func := "loop.example/switchpuzzles/laws.FnExactReached", spec := "fnExactReached", apart := false }
def FnExactReachedSaid : Prop := fnExactReachedRow.holds Try.pinned (OpenSpec.ofChange fnExactReachedSpec)

/-- ITS FALSE NEIGHBOUR: 'it returns false'. Refute it at one input. -/
def fnExactReachedWrong : ChangeSpec := { name := "fnExactReached", fn := fun _ => fun
  | [d] => { results := [.lit (.bool false)], args := [d] }
  | _ => none }
def FnExactReachedWrongFalsely : Prop := fnExactReachedRow.holds Try.pinned (OpenSpec.ofChange fnExactReachedWrong)

/-- 'laws.FnExactLeadsTo': WHATEVER THE INPUT: true; the input reads as it did. -/
def fnExactLeadsToSpec : ChangeSpec := { name := "fnExactLeadsTo", fn := fun _ => fun
  | [d] => { results := [.lit (.bool true)], args := [d] }
  | _ => none }
def fnExactLeadsToRow : OpenClaim := { program := "ytballcjfgdolbaa", sum := "97378f5278f23cd34b59163c395b6e9fa309c92515d95ed60a817a4c00d9cbd4", func := "loop.example/switchpuzzles/laws.FnExactLeadsTo", spec := "fnExactLeadsTo", apart := false }
def FnExactLeadsToSaid : Prop := fnExactLeadsToRow.holds Try.pinned (OpenSpec.ofChange fnExactLeadsToSpec)

/-- ITS FALSE NEIGHBOUR: 'it returns false'. Refute it at one input. -/
def fnExactLeadsToWrong : ChangeSpec := { name := "fnExactLeadsTo", fn := fun _ => fun
  | [d] => { results := [.lit (.bool false)], args := [d] }
  | _ => none }
def FnExactLeadsToWrongFalsely : Prop := fnExactLeadsToRow.holds Try.pinned (OpenSpec.ofChange fnExactLeadsToWrong)

/- THE SECOND FORM. 'bulk': how many values and letters a reading holds, each counted each time it is reached (what is shared counts as often as it is met; a slice's spare places count too). A statement '..UptoSaid' is the law's where the arguments, and the package variables that the reading takes, are together of bulk at most 1048576: NARROWER than '..Said'. Prove '..Said' where nothing that the law and all that it calls make is longer than what came in: it says more and counts as full. Else prove '..UptoSaid'. A law counts once. -/
mutual
def uptoBulk {H : Type} : DataW H → Nat
  | .lit (.string bytes) => bytes.length + 1
  | .lit _ => 1
  | .nil => 1
  | .ptr d => uptoBulk d + 1
  | .slice elems spare => uptoBulkAll elems + uptoBulkAll spare + 1
  | .agg parts => uptoBulkAll parts + 1
  | .iface _ d => uptoBulk d + 1
  | .map entries => uptoBulkEntries entries + 1
  | .held _ => 1
def uptoBulkAll {H : Type} : List (DataW H) → Nat
  | [] => 0
  | d :: r => uptoBulk d + uptoBulkAll r
def uptoBulkEntries {H : Type} : List (Lit × DataW H) → Nat
  | [] => 0
  | x :: r => uptoBulkEntry x + uptoBulkEntries r
def uptoBulkEntry {H : Type} : Lit × DataW H → Nat
  | (.string bytes, d) => bytes.length + uptoBulk d + 1
  | (_, d) => uptoBulk d + 1
 end
def uptoSmall : (H : Type) → List (DataW H) → Bool := fun _ ds => decide (uptoBulkAll ds ≤ 1048576)
def OpenSpec.upto (s : _root_.Go.ChangeSpec) : _root_.Go.OpenSpec := { _root_.Go.OpenSpec.ofChange s with cond := some uptoSmall }

/-- 'laws.FnExactCodeText', WHERE WHAT IT READS IS OF BULK AT MOST 1048576: true; the input reads as it did. -/
def fnExactCodeTextUptoRow : OpenClaim := { program := "ytballcjfgdolbaa", sum := "97378f5278f23cd34b59163c395b6e9fa309c92515d95ed60a817a4c00d9cbd4", func := "loop.example/switchpuzzles/laws.FnExactCodeText", spec := "fnExactCodeText", recurses := true, apart := false, narrowed := true }
def FnExactCodeTextUptoSaid : Prop := fnExactCodeTextUptoRow.holds Try.pinned (OpenSpec.upto fnExactCodeTextSpec)

/-- 'laws.FnExactCodePush', WHERE WHAT IT READS IS OF BULK AT MOST 1048576: true; the input reads as it did. -/
def fnExactCodePushUptoRow : OpenClaim := { program := "ytballcjfgdolbaa", sum := "97378f5278f23cd34b59163c395b6e9fa309c92515d95ed60a817a4c00d9cbd4", func := "loop.example/switchpuzzles/laws.FnExactCodePush", spec := "fnExactCodePush", unfollowed := true, recurses := true, apart := false, narrowed := true }
def FnExactCodePushUptoSaid : Prop := fnExactCodePushUptoRow.holds Try.pinned (OpenSpec.upto fnExactCodePushSpec)

/-- 'laws.FnExactReadCode', WHERE WHAT IT READS IS OF BULK AT MOST 1048576: true; the input reads as it did. -/
def fnExactReadCodeUptoRow : OpenClaim := { program := "ytballcjfgdolbaa", sum := "97378f5278f23cd34b59163c395b6e9fa309c92515d95ed60a817a4c00d9cbd4", func := "loop.example/switchpuzzles/laws.FnExactReadCode", spec := "fnExactReadCode", recurses := true, apart := false, narrowed := true }
def FnExactReadCodeUptoSaid : Prop := fnExactReadCodeUptoRow.holds Try.pinned (OpenSpec.upto fnExactReadCodeSpec)

/-- 'laws.FnExactCodeSimple', WHERE WHAT IT READS IS OF BULK AT MOST 1048576: true; the input reads as it did. -/
def fnExactCodeSimpleUptoRow : OpenClaim := { program := "ytballcjfgdolbaa", sum := "97378f5278f23cd34b59163c395b6e9fa309c92515d95ed60a817a4c00d9cbd4", func := "loop.example/switchpuzzles/laws.FnExactCodeSimple", spec := "fnExactCodeSimple", unfollowed := true, recurses := true, apart := false, narrowed := true }
def FnExactCodeSimpleUptoSaid : Prop := fnExactCodeSimpleUptoRow.holds Try.pinned (OpenSpec.upto fnExactCodeSimpleSpec)

/-- 'laws.FnExactPlanOk', WHERE WHAT IT READS IS OF BULK AT MOST 1048576: true; the input reads as it did. -/
def fnExactPlanOkUptoRow : OpenClaim := { program := "ytballcjfgdolbaa", sum := "97378f5278f23cd34b59163c395b6e9fa309c92515d95ed60a817a4c00d9cbd4", func := "loop.example/switchpuzzles/laws.FnExactPlanOk", spec := "fnExactPlanOk", apart := false, narrowed := true }
def FnExactPlanOkUptoSaid : Prop := fnExactPlanOkUptoRow.holds Try.pinned (OpenSpec.upto fnExactPlanOkSpec)

/-- 'laws.FnExactStatesBack', WHERE WHAT IT READS IS OF BULK AT MOST 1048576: true; the input reads as it did. -/
def fnExactStatesBackUptoRow : OpenClaim := { program := "ytballcjfgdolbaa", sum := "97378f5278f23cd34b59163c395b6e9fa309c92515d95ed60a817a4c00d9cbd4", func := "loop.example/switchpuzzles/laws.FnExactStatesBack", spec := "fnExactStatesBack", apart := false, narrowed := true }
def FnExactStatesBackUptoSaid : Prop := fnExactStatesBackUptoRow.holds Try.pinned (OpenSpec.upto fnExactStatesBackSpec)

/-- 'laws.FnExactStatesNext', WHERE WHAT IT READS IS OF BULK AT MOST 1048576: true; the input reads as it did. -/
def fnExactStatesNextUptoRow : OpenClaim := { program := "ytballcjfgdolbaa", sum := "97378f5278f23cd34b59163c395b6e9fa309c92515d95ed60a817a4c00d9cbd4", func := "loop.example/switchpuzzles/laws.FnExactStatesNext", spec := "fnExactStatesNext", apart := false, narrowed := true }
def FnExactStatesNextUptoSaid : Prop := fnExactStatesNextUptoRow.holds Try.pinned (OpenSpec.upto fnExactStatesNextSpec)

/-- 'laws.FnExactDeedsMay', WHERE WHAT IT READS IS OF BULK AT MOST 1048576: true; the input reads as it did. -/
def fnExactDeedsMayUptoRow : OpenClaim := { program := "ytballcjfgdolbaa", sum := "97378f5278f23cd34b59163c395b6e9fa309c92515d95ed60a817a4c00d9cbd4", func := "loop.example/switchpuzzles/laws.FnExactDeedsMay", spec := "fnExactDeedsMay", apart := false, narrowed := true }
def FnExactDeedsMayUptoSaid : Prop := fnExactDeedsMayUptoRow.holds Try.pinned (OpenSpec.upto fnExactDeedsMaySpec)

/-- 'laws.FnExactReached', WHERE WHAT IT READS IS OF BULK AT MOST 1048576: true; the input reads as it did. -/
def fnExactReachedUptoRow : OpenClaim := { program := "ytballcjfgdolbaa", sum := "97378f5278f23cd34b59163c395b6e9fa309c92515d95ed60a817a4c00d9cbd4", func := "loop.example/switchpuzzles/laws.FnExactReached", spec := "fnExactReached", apart := false, narrowed := true }
def FnExactReachedUptoSaid : Prop := fnExactReachedUptoRow.holds Try.pinned (OpenSpec.upto fnExactReachedSpec)

/-- 'laws.FnExactLeadsTo', WHERE WHAT IT READS IS OF BULK AT MOST 1048576: true; the input reads as it did. -/
def fnExactLeadsToUptoRow : OpenClaim := { program := "ytballcjfgdolbaa", sum := "97378f5278f23cd34b59163c395b6e9fa309c92515d95ed60a817a4c00d9cbd4", func := "loop.example/switchpuzzles/laws.FnExactLeadsTo", spec := "fnExactLeadsTo", apart := false, narrowed := true }
def FnExactLeadsToUptoSaid : Prop := fnExactLeadsToUptoRow.holds Try.pinned (OpenSpec.upto fnExactLeadsToSpec)

end Rows
end Go.Proofs.Ytballcjfgdolbaa
