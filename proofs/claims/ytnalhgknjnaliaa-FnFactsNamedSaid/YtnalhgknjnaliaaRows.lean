/-
  No cell of these rows narrows 'for every input' (looked for: loops, veiled, ifaces, maps, wideKeys, modest, calm, conditions, laid).
  DERIVED. THE GIVEN ROWS OF THIS SEAT. 6 by the template 'for every input the law returns true; each argument reads behind the call as it read before'; 0 by the template 'total and deterministic' (their statements: YtnalhgknjnaliaaTotals.lean).
  GIVEN WITH THE SEED: the statements are not yours to turn. If you find one false, say at which input.
  Laid BY PROGRAM, IN A SANDBOX (cutbox-rows.mjs): the forced cells as the released guide's own fill.sh prints them over the translation 725370395044507c… (all of the seat's roots in one cut). By AI agents, Wed Nov 11 2026. No macro, syntax, notation, axiom, sorry.
-/
import Derived.Test.YtnalhgknjnaliaaChecked
import GoSem.Claim
import GoSem.ClaimJoined
import GoSem.ClaimMapViews
import Derived.JoinedTies
import Derived.KernelRfl
namespace Go.Proofs.Ytnalhgknjnaliaa
/- THE CELL 'sum', in the pinned program and in every row, IS THE sha256 OF THE DUMP (.gsa) THAT YtnalhgknjnaliaaProg.lean LOADS. Nothing in Lean hashes anything: it is a label: what it is worth is what the hold of that sum in a sandbox is worth. -/
noncomputable def Try.pinned : Pinned := { name := "ytnalhgknjnaliaa", sum := "725370395044507c81a1b0528bf20a39a085c459bf19c553d08095dd8f7bcc30", checked := Try.checked }
namespace Rows
def none {H : Type} : Left H := { results := [], args := [] }

/-- 'laws.FnReadCode': WHATEVER THE INPUT: true; the input reads as it did. -/
def fnReadCodeSpec : ChangeSpec := { name := "fnReadCode", fn := fun _ => fun
  | [d] => { results := [.lit (.bool true)], args := [d] }
  | _ => none }
def fnReadCodeRow : OpenClaim := { program := "ytnalhgknjnaliaa", sum := "725370395044507c81a1b0528bf20a39a085c459bf19c553d08095dd8f7bcc30", func := "loop.example/switchpuzzles/laws.FnReadCode", spec := "fnReadCode", recurses := true, apart := false }
def FnReadCodeSaid : Prop := fnReadCodeRow.holds Try.pinned (OpenSpec.ofChange fnReadCodeSpec)

/-- ITS FALSE NEIGHBOUR: 'it returns false'. Refute it at one input. -/
def fnReadCodeWrong : ChangeSpec := { name := "fnReadCode", fn := fun _ => fun
  | [d] => { results := [.lit (.bool false)], args := [d] }
  | _ => none }
def FnReadCodeWrongFalsely : Prop := fnReadCodeRow.holds Try.pinned (OpenSpec.ofChange fnReadCodeWrong)

/-- 'laws.FnCodePush': WHATEVER THE INPUT: true; the input reads as it did. -/
def fnCodePushSpec : ChangeSpec := { name := "fnCodePush", fn := fun _ => fun
  | [d] => { results := [.lit (.bool true)], args := [d] }
  | _ => none }
def fnCodePushRow : OpenClaim := { program := "ytnalhgknjnaliaa", sum := "725370395044507c81a1b0528bf20a39a085c459bf19c553d08095dd8f7bcc30", func := "loop.example/switchpuzzles/laws.FnCodePush", spec := "fnCodePush", unfollowed := true, recurses := true, apart := false }
def FnCodePushSaid : Prop := fnCodePushRow.holds Try.pinned (OpenSpec.ofChange fnCodePushSpec)

/-- ITS FALSE NEIGHBOUR: 'it returns false'. Refute it at one input. -/
def fnCodePushWrong : ChangeSpec := { name := "fnCodePush", fn := fun _ => fun
  | [d] => { results := [.lit (.bool false)], args := [d] }
  | _ => none }
def FnCodePushWrongFalsely : Prop := fnCodePushRow.holds Try.pinned (OpenSpec.ofChange fnCodePushWrong)

/-- 'laws.FnCodeText': WHATEVER THE INPUT: true; the input reads as it did. -/
def fnCodeTextSpec : ChangeSpec := { name := "fnCodeText", fn := fun _ => fun
  | [d] => { results := [.lit (.bool true)], args := [d] }
  | _ => none }
def fnCodeTextRow : OpenClaim := { program := "ytnalhgknjnaliaa", sum := "725370395044507c81a1b0528bf20a39a085c459bf19c553d08095dd8f7bcc30", func := "loop.example/switchpuzzles/laws.FnCodeText", spec := "fnCodeText", recurses := true, apart := false }
def FnCodeTextSaid : Prop := fnCodeTextRow.holds Try.pinned (OpenSpec.ofChange fnCodeTextSpec)

/-- ITS FALSE NEIGHBOUR: 'it returns false'. Refute it at one input. -/
def fnCodeTextWrong : ChangeSpec := { name := "fnCodeText", fn := fun _ => fun
  | [d] => { results := [.lit (.bool false)], args := [d] }
  | _ => none }
def FnCodeTextWrongFalsely : Prop := fnCodeTextRow.holds Try.pinned (OpenSpec.ofChange fnCodeTextWrong)

/-- 'laws.FnFactsNamed': WHATEVER THE INPUT: true; the input reads as it did. -/
def fnFactsNamedSpec : ChangeSpec := { name := "fnFactsNamed", fn := fun _ => fun
  | [d] => { results := [.lit (.bool true)], args := [d] }
  | _ => none }
def fnFactsNamedRow : OpenClaim := { program := "ytnalhgknjnaliaa", sum := "725370395044507c81a1b0528bf20a39a085c459bf19c553d08095dd8f7bcc30", func := "loop.example/switchpuzzles/laws.FnFactsNamed", spec := "fnFactsNamed", unfollowed := true, recurses := true, apart := false }
def FnFactsNamedSaid : Prop := fnFactsNamedRow.holds Try.pinned (OpenSpec.ofChange fnFactsNamedSpec)

/-- ITS FALSE NEIGHBOUR: 'it returns false'. Refute it at one input. -/
def fnFactsNamedWrong : ChangeSpec := { name := "fnFactsNamed", fn := fun _ => fun
  | [d] => { results := [.lit (.bool false)], args := [d] }
  | _ => none }
def FnFactsNamedWrongFalsely : Prop := fnFactsNamedRow.holds Try.pinned (OpenSpec.ofChange fnFactsNamedWrong)

/-- 'laws.FnCodeRun': WHATEVER THE INPUT: true; the input reads as it did. -/
def fnCodeRunSpec : ChangeSpec := { name := "fnCodeRun", fn := fun _ => fun
  | [d] => { results := [.lit (.bool true)], args := [d] }
  | _ => none }
def fnCodeRunRow : OpenClaim := { program := "ytnalhgknjnaliaa", sum := "725370395044507c81a1b0528bf20a39a085c459bf19c553d08095dd8f7bcc30", func := "loop.example/switchpuzzles/laws.FnCodeRun", spec := "fnCodeRun", recurses := true, apart := false }
def FnCodeRunSaid : Prop := fnCodeRunRow.holds Try.pinned (OpenSpec.ofChange fnCodeRunSpec)

/-- ITS FALSE NEIGHBOUR: 'it returns false'. Refute it at one input. -/
def fnCodeRunWrong : ChangeSpec := { name := "fnCodeRun", fn := fun _ => fun
  | [d] => { results := [.lit (.bool false)], args := [d] }
  | _ => none }
def FnCodeRunWrongFalsely : Prop := fnCodeRunRow.holds Try.pinned (OpenSpec.ofChange fnCodeRunWrong)

/-- 'laws.FnCodeSimple': WHATEVER THE INPUT: true; the input reads as it did. -/
def fnCodeSimpleSpec : ChangeSpec := { name := "fnCodeSimple", fn := fun _ => fun
  | [d] => { results := [.lit (.bool true)], args := [d] }
  | _ => none }
def fnCodeSimpleRow : OpenClaim := { program := "ytnalhgknjnaliaa", sum := "725370395044507c81a1b0528bf20a39a085c459bf19c553d08095dd8f7bcc30", func := "loop.example/switchpuzzles/laws.FnCodeSimple", spec := "fnCodeSimple", unfollowed := true, recurses := true, apart := false }
def FnCodeSimpleSaid : Prop := fnCodeSimpleRow.holds Try.pinned (OpenSpec.ofChange fnCodeSimpleSpec)

/-- ITS FALSE NEIGHBOUR: 'it returns false'. Refute it at one input. -/
def fnCodeSimpleWrong : ChangeSpec := { name := "fnCodeSimple", fn := fun _ => fun
  | [d] => { results := [.lit (.bool false)], args := [d] }
  | _ => none }
def FnCodeSimpleWrongFalsely : Prop := fnCodeSimpleRow.holds Try.pinned (OpenSpec.ofChange fnCodeSimpleWrong)

/- THE SECOND FORM. 'bulk': how many values and letters a reading holds, each counted each time it is reached (what is shared counts as often as it is met; a slice's spare places count too). A statement '..UptoSaid' is the law's where the arguments, and the package variables that the reading takes, are together of bulk at most 1048576: NARROWER than '..Said'. Prove '..Said' where nothing that the law and all that it calls make is longer than what came in: it says more and counts as full. Else prove '..UptoSaid'. A law counts once. -/
mutual
def uptoBulk {H : Type} : DataW H → Nat
  | .lit (.string bytes) => bytes.length + 1
  | .lit _ => 1
  | .nil => 1
  | .ptr d => uptoBulk d + 1
  | .slice elems spare => uptoBulkAll elems + uptoBulkAll spare + 1
  | .agg parts => uptoBulkAll parts + 1
  | .iface _ d => uptoBulk d + 1
  | .map entries => uptoBulkEntries entries + 1
  | .held _ => 1
def uptoBulkAll {H : Type} : List (DataW H) → Nat
  | [] => 0
  | d :: r => uptoBulk d + uptoBulkAll r
def uptoBulkEntries {H : Type} : List (Lit × DataW H) → Nat
  | [] => 0
  | x :: r => uptoBulkEntry x + uptoBulkEntries r
def uptoBulkEntry {H : Type} : Lit × DataW H → Nat
  | (.string bytes, d) => bytes.length + uptoBulk d + 1
  | (_, d) => uptoBulk d + 1
 end
def uptoSmall : (H : Type) → List (DataW H) → Bool := fun _ ds => decide (uptoBulkAll ds ≤ 1048576)
def OpenSpec.upto (s : _root_.Go.ChangeSpec) : _root_.Go.OpenSpec := { _root_.Go.OpenSpec.ofChange s with cond := some uptoSmall }

/-- 'laws.FnReadCode', WHERE WHAT IT READS IS OF BULK AT MOST 1048576: true; the input reads as it did. -/
def fnReadCodeUptoRow : OpenClaim := { program := "ytnalhgknjnaliaa", sum := "725370395044507c81a1b0528bf20a39a085c459bf19c553d08095dd8f7bcc30", func := "loop.example/switchpuzzles/laws.FnReadCode", spec := "fnReadCode", recurses := true, apart := false, narrowed := true }
def FnReadCodeUptoSaid : Prop := fnReadCodeUptoRow.holds Try.pinned (OpenSpec.upto fnReadCodeSpec)

/-- 'laws.FnCodePush', WHERE WHAT IT READS IS OF BULK AT MOST 1048576: true; the input reads as it did. -/
def fnCodePushUptoRow : OpenClaim := { program := "ytnalhgknjnaliaa", sum := "725370395044507c81a1b0528bf20a39a085c459bf19c553d08095dd8f7bcc30", func := "loop.example/switchpuzzles/laws.FnCodePush", spec := "fnCodePush", unfollowed := true, recurses := true, apart := false, narrowed := true }
def FnCodePushUptoSaid : Prop := fnCodePushUptoRow.holds Try.pinned (OpenSpec.upto fnCodePushSpec)

/-- 'laws.FnCodeText', WHERE WHAT IT READS IS OF BULK AT MOST 1048576: true; the input reads as it did. -/
def fnCodeTextUptoRow : OpenClaim := { program := "ytnalhgknjnaliaa", sum := "725370395044507c81a1b0528bf20a39a085c459bf19c553d08095dd8f7bcc30", func := "loop.example/switchpuzzles/laws.FnCodeText", spec := "fnCodeText", recurses := true, apart := false, narrowed := true }
def FnCodeTextUptoSaid : Prop := fnCodeTextUptoRow.holds Try.pinned (OpenSpec.upto fnCodeTextSpec)

/-- 'laws.FnFactsNamed', WHERE WHAT IT READS IS OF BULK AT MOST 1048576: true; the input reads as it did. -/
def fnFactsNamedUptoRow : OpenClaim := { program := "ytnalhgknjnaliaa", sum := "725370395044507c81a1b0528bf20a39a085c459bf19c553d08095dd8f7bcc30", func := "loop.example/switchpuzzles/laws.FnFactsNamed", spec := "fnFactsNamed", unfollowed := true, recurses := true, apart := false, narrowed := true }
def FnFactsNamedUptoSaid : Prop := fnFactsNamedUptoRow.holds Try.pinned (OpenSpec.upto fnFactsNamedSpec)

/-- 'laws.FnCodeRun', WHERE WHAT IT READS IS OF BULK AT MOST 1048576: true; the input reads as it did. -/
def fnCodeRunUptoRow : OpenClaim := { program := "ytnalhgknjnaliaa", sum := "725370395044507c81a1b0528bf20a39a085c459bf19c553d08095dd8f7bcc30", func := "loop.example/switchpuzzles/laws.FnCodeRun", spec := "fnCodeRun", recurses := true, apart := false, narrowed := true }
def FnCodeRunUptoSaid : Prop := fnCodeRunUptoRow.holds Try.pinned (OpenSpec.upto fnCodeRunSpec)

/-- 'laws.FnCodeSimple', WHERE WHAT IT READS IS OF BULK AT MOST 1048576: true; the input reads as it did. -/
def fnCodeSimpleUptoRow : OpenClaim := { program := "ytnalhgknjnaliaa", sum := "725370395044507c81a1b0528bf20a39a085c459bf19c553d08095dd8f7bcc30", func := "loop.example/switchpuzzles/laws.FnCodeSimple", spec := "fnCodeSimple", unfollowed := true, recurses := true, apart := false, narrowed := true }
def FnCodeSimpleUptoSaid : Prop := fnCodeSimpleUptoRow.holds Try.pinned (OpenSpec.upto fnCodeSimpleSpec)

end Rows
end Go.Proofs.Ytnalhgknjnaliaa
