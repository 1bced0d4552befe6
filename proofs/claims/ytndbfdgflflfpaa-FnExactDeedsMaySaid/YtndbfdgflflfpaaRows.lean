/-
  No cell of these rows narrows 'for every input' (looked for: loops, veiled, ifaces, maps, wideKeys, modest, calm, conditions, laid).
  DERIVED. THE GIVEN ROWS OF THIS SEAT. 6 by the template 'for every input the law returns true; each argument reads behind the call as it read before'; 0 by the template 'total and deterministic' (their statements: YtndbfdgflflfpaaTotals.lean).
  GIVEN WITH THE SEED: the statements are not yours to turn. If you find one false, say at which input.
  Laid BY PROGRAM, IN A SANDBOX (cutbox-rows.mjs): the forced cells as the released guide's own fill.sh prints them over the translation 4a6daecadd818184… (all of the seat's roots in one cut). By AI agents, Wed Nov 11 2026. No macro, syntax, notation, axiom, sorry.
-/
import Derived.Test.YtndbfdgflflfpaaChecked
import GoSem.Claim
import GoSem.ClaimJoined
import GoSem.ClaimMapViews
import Derived.JoinedTies
import Derived.KernelRfl
namespace Go.Proofs.Ytndbfdgflflfpaa
/- THE CELL 'sum', in the pinned program and in every row, IS THE sha256 OF THE DUMP (.gsa) THAT YtndbfdgflflfpaaProg.lean LOADS. Nothing in Lean hashes anything: it is a label: what it is worth is what the hold of that sum in a sandbox is worth. -/
noncomputable def Try.pinned : Pinned := { name := "ytndbfdgflflfpaa", sum := "4a6daecadd8181848c7bc6ce222258a4c5fd3ae3eaac8c670747858d9aa3e8b5", checked := Try.checked }
namespace Rows
def none {H : Type} : Left H := { results := [], args := [] }

/-- 'laws.FnExactReadCode': WHATEVER THE INPUT: true; the input reads as it did. -/
def fnExactReadCodeSpec : ChangeSpec := { name := "fnExactReadCode", fn := fun _ => fun
  | [d] => { results := [.lit (.bool true)], args := [d] }
  | _ => none }
def fnExactReadCodeRow : OpenClaim := { program := "ytndbfdgflflfpaa", sum := "4a6daecadd8181848c7bc6ce222258a4c5fd3ae3eaac8c670747858d9aa3e8b5", func := "loop.example/switchpuzzles/laws.FnExactReadCode", spec := "fnExactReadCode", recurses := true, apart := false }
def FnExactReadCodeSaid : Prop := fnExactReadCodeRow.holds Try.pinned (OpenSpec.ofChange fnExactReadCodeSpec)

/-- ITS FALSE NEIGHBOUR: 'it returns false'. Refute it at one input. -/
def fnExactReadCodeWrong : ChangeSpec := { name := "fnExactReadCode", fn := fun _ => fun
  | [d] => { results := [.lit (.bool false)], args := [d] }
  | _ => none }
def FnExactReadCodeWrongFalsely : Prop := fnExactReadCodeRow.holds Try.pinned (OpenSpec.ofChange fnExactReadCodeWrong)

/-- 'laws.FnExactDeedsMay': WHATEVER THE INPUT: true; the input reads as it did. -/
def fnExactDeedsMaySpec : ChangeSpec := { name := "fnExactDeedsMay", fn := fun _ => fun
  | [d1, d2] => { results := [.lit (.bool true)], args := [d1, d2] }
  | _ => none }
def fnExactDeedsMayRow : OpenClaim := { program := "ytndbfdgflflfpaa", sum := "4a6daecadd8181848c7bc6ce222258a4c5fd3ae3eaac8c670747858d9aa3e8b5", func := "loop.example/switchpuzzles/laws.FnExactDeedsMay", spec := "fnExactDeedsMay", apart := false }
def FnExactDeedsMaySaid : Prop := fnExactDeedsMayRow.holds Try.pinned (OpenSpec.ofChange fnExactDeedsMaySpec)

/-- ITS FALSE NEIGHBOUR: 'it returns false'. Refute it at one input. -/
def fnExactDeedsMayWrong : ChangeSpec := { name := "fnExactDeedsMay", fn := fun _ => fun
  | [d1, d2] => { results := [.lit (.bool false)], args := [d1, d2] }
  | _ => none }
def FnExactDeedsMayWrongFalsely : Prop := fnExactDeedsMayRow.holds Try.pinned (OpenSpec.ofChange fnExactDeedsMayWrong)

/-- 'laws.FnDeedsMay': WHATEVER THE INPUT: true; the input reads as it did. -/
def fnDeedsMaySpec : ChangeSpec := { name := "fnDeedsMay", fn := fun _ => fun
  | [d] => { results := [.lit (.bool true)], args := [d] }
  | _ => none }
def fnDeedsMayRow : OpenClaim := { program := "ytndbfdgflflfpaa", sum := "4a6daecadd8181848c7bc6ce222258a4c5fd3ae3eaac8c670747858d9aa3e8b5", func := "loop.example/switchpuzzles/laws.FnDeedsMay", spec := "fnDeedsMay", apart := false }
def FnDeedsMaySaid : Prop := fnDeedsMayRow.holds Try.pinned (OpenSpec.ofChange fnDeedsMaySpec)

/-- ITS FALSE NEIGHBOUR: 'it returns false'. Refute it at one input. -/
def fnDeedsMayWrong : ChangeSpec := { name := "fnDeedsMay", fn := fun _ => fun
  | [d] => { results := [.lit (.bool false)], args := [d] }
  | _ => none }
def FnDeedsMayWrongFalsely : Prop := fnDeedsMayRow.holds Try.pinned (OpenSpec.ofChange fnDeedsMayWrong)

/-- 'laws.FnReadCode': WHATEVER THE INPUT: true; the input reads as it did. -/
def fnReadCodeSpec : ChangeSpec := { name := "fnReadCode", fn := fun _ => fun
  | [d] => { results := [.lit (.bool true)], args := [d] }
  | _ => none }
def fnReadCodeRow : OpenClaim := { program := "ytndbfdgflflfpaa", sum := "4a6daecadd8181848c7bc6ce222258a4c5fd3ae3eaac8c670747858d9aa3e8b5", func := "loop.example/switchpuzzles/laws.FnReadCode", spec := "fnReadCode", recurses := true, apart := false }
def FnReadCodeSaid : Prop := fnReadCodeRow.holds Try.pinned (OpenSpec.ofChange fnReadCodeSpec)

/-- ITS FALSE NEIGHBOUR: 'it returns false'. Refute it at one input. -/
def fnReadCodeWrong : ChangeSpec := { name := "fnReadCode", fn := fun _ => fun
  | [d] => { results := [.lit (.bool false)], args := [d] }
  | _ => none }
def FnReadCodeWrongFalsely : Prop := fnReadCodeRow.holds Try.pinned (OpenSpec.ofChange fnReadCodeWrong)

/-- 'laws.FnCodeText': WHATEVER THE INPUT: true; the input reads as it did. -/
def fnCodeTextSpec : ChangeSpec := { name := "fnCodeText", fn := fun _ => fun
  | [d] => { results := [.lit (.bool true)], args := [d] }
  | _ => none }
def fnCodeTextRow : OpenClaim := { program := "ytndbfdgflflfpaa", sum := "4a6daecadd8181848c7bc6ce222258a4c5fd3ae3eaac8c670747858d9aa3e8b5", func := "loop.example/switchpuzzles/laws.FnCodeText", spec := "fnCodeText", recurses := true, apart := false }
def FnCodeTextSaid : Prop := fnCodeTextRow.holds Try.pinned (OpenSpec.ofChange fnCodeTextSpec)

/-- ITS FALSE NEIGHBOUR: 'it returns false'. Refute it at one input. -/
def fnCodeTextWrong : ChangeSpec := { name := "fnCodeText", fn := fun _ => fun
  | [d] => { results := [.lit (.bool false)], args := [d] }
  | _ => none }
def FnCodeTextWrongFalsely : Prop := fnCodeTextRow.holds Try.pinned (OpenSpec.ofChange fnCodeTextWrong)

/-- 'laws.FnCodeRun': WHATEVER THE INPUT: true; the input reads as it did. -/
def fnCodeRunSpec : ChangeSpec := { name := "fnCodeRun", fn := fun _ => fun
  | [d] => { results := [.lit (.bool true)], args := [d] }
  | _ => none }
def fnCodeRunRow : OpenClaim := { program := "ytndbfdgflflfpaa", sum := "4a6daecadd8181848c7bc6ce222258a4c5fd3ae3eaac8c670747858d9aa3e8b5", func := "loop.example/switchpuzzles/laws.FnCodeRun", spec := "fnCodeRun", recurses := true, apart := false }
def FnCodeRunSaid : Prop := fnCodeRunRow.holds Try.pinned (OpenSpec.ofChange fnCodeRunSpec)

/-- ITS FALSE NEIGHBOUR: 'it returns false'. Refute it at one input. -/
def fnCodeRunWrong : ChangeSpec := { name := "fnCodeRun", fn := fun _ => fun
  | [d] => { results := [.lit (.bool false)], args := [d] }
  | _ => none }
def FnCodeRunWrongFalsely : Prop := fnCodeRunRow.holds Try.pinned (OpenSpec.ofChange fnCodeRunWrong)

/- THE SECOND FORM. 'bulk': how many values and letters a reading holds, each counted each time it is reached (what is shared counts as often as it is met; a slice's spare places count too). A statement '..UptoSaid' is the law's where the arguments, and the package variables that the reading takes, are together of bulk at most 1048576: NARROWER than '..Said'. Prove '..Said' where nothing that the law and all that it calls make is longer than what came in: it says more and counts as full. Else prove '..UptoSaid'. A law counts once. -/
mutual
def uptoBulk {H : Type} : DataW H → Nat
  | .lit (.string bytes) => bytes.length + 1
  | .lit _ => 1
  | .nil => 1
  | .ptr d => uptoBulk d + 1
  | .slice elems spare => uptoBulkAll elems + uptoBulkAll spare + 1
  | .agg parts => uptoBulkAll parts + 1
  | .iface _ d => uptoBulk d + 1
  | .map entries => uptoBulkEntries entries + 1
  | .held _ => 1
def uptoBulkAll {H : Type} : List (DataW H) → Nat
  | [] => 0
  | d :: r => uptoBulk d + uptoBulkAll r
def uptoBulkEntries {H : Type} : List (Lit × DataW H) → Nat
  | [] => 0
  | x :: r => uptoBulkEntry x + uptoBulkEntries r
def uptoBulkEntry {H : Type} : Lit × DataW H → Nat
  | (.string bytes, d) => bytes.length + uptoBulk d + 1
  | (_, d) => uptoBulk d + 1
 end
def uptoSmall : (H : Type) → List (DataW H) → Bool := fun _ ds => decide (uptoBulkAll ds ≤ 1048576)
def OpenSpec.upto (s : _root_.Go.ChangeSpec) : _root_.Go.OpenSpec := { _root_.Go.OpenSpec.ofChange s with cond := some uptoSmall }

/-- 'laws.FnExactReadCode', WHERE WHAT IT READS IS OF BULK AT MOST 1048576: true; the input reads as it did. -/
def fnExactReadCodeUptoRow : OpenClaim := { program := "ytndbfdgflflfpaa", sum := "4a6daecadd8181848c7bc6ce222258a4c5fd3ae3eaac8c670747858d9aa3e8b5", func := "loop.example/switchpuzzles/laws.FnExactReadCode", spec := "fnExactReadCode", recurses := true, apart := false, narrowed := true }
def FnExactReadCodeUptoSaid : Prop := fnExactReadCodeUptoRow.holds Try.pinned (OpenSpec.upto fnExactReadCodeSpec)

/-- 'laws.FnExactDeedsMay', WHERE WHAT IT READS IS OF BULK AT MOST 1048576: true; the input reads as it did. -/
def fnExactDeedsMayUptoRow : OpenClaim := { program := "ytndbfdgflflfpaa", sum := "4a6daecadd8181848c7bc6ce222258a4c5fd3ae3eaac8c670747858d9aa3e8b5", func := "loop.example/switchpuzzles/laws.FnExactDeedsMay", spec := "fnExactDeedsMay", apart := false, narrowed := true }
def FnExactDeedsMayUptoSaid : Prop := fnExactDeedsMayUptoRow.holds Try.pinned (OpenSpec.upto fnExactDeedsMaySpec)

/-- 'laws.FnDeedsMay', WHERE WHAT IT READS IS OF BULK AT MOST 1048576: true; the input reads as it did. -/
def fnDeedsMayUptoRow : OpenClaim := { program := "ytndbfdgflflfpaa", sum := "4a6daecadd8181848c7bc6ce222258a4c5fd3ae3eaac8c670747858d9aa3e8b5", func := "loop.example/switchpuzzles/laws.FnDeedsMay", spec := "fnDeedsMay", apart := false, narrowed := true }
def FnDeedsMayUptoSaid : Prop := fnDeedsMayUptoRow.holds Try.pinned (OpenSpec.upto fnDeedsMaySpec)

/-- 'laws.FnReadCode', WHERE WHAT IT READS IS OF BULK AT MOST 1048576: true; the input reads as it did. -/
def fnReadCodeUptoRow : OpenClaim := { program := "ytndbfdgflflfpaa", sum := "4a6daecadd8181848c7bc6ce222258a4c5fd3ae3eaac8c670747858d9aa3e8b5", func := "loop.example/switchpuzzles/laws.FnReadCode", spec := "fnReadCode", recurses := true, apart := false, narrowed := true }
def FnReadCodeUptoSaid : Prop := fnReadCodeUptoRow.holds Try.pinned (OpenSpec.upto fnReadCodeSpec)

/-- 'laws.FnCodeText', WHERE WHAT IT READS IS OF BULK AT MOST 1048576: true; the input reads as it did. -/
def fnCodeTextUptoRow : OpenClaim := { program := "ytndbfdgflflfpaa", sum := "4a6daecadd8181848c7bc6ce222258a4c5fd3ae3eaac8c670747858d9aa3e8b5", func := "loop.example/switchpuzzles/laws.FnCodeText", spec := "fnCodeText", recurses := true, apart := false, narrowed := true }
def FnCodeTextUptoSaid : Prop := fnCodeTextUptoRow.holds Try.pinned (OpenSpec.upto fnCodeTextSpec)

/-- 'laws.FnCodeRun', WHERE WHAT IT READS IS OF BULK AT MOST 1048576: true; the input reads as it did. -/
def fnCodeRunUptoRow : OpenClaim := { program := "ytndbfdgflflfpaa", sum := "4a6daecadd8181848c7bc6ce222258a4c5fd3ae3eaac8c670747858d9aa3e8b5", func := "loop.example/switchpuzzles/laws.FnCodeRun", spec := "fnCodeRun", recurses := true, apart := false, narrowed := true }
def FnCodeRunUptoSaid : Prop := fnCodeRunUptoRow.holds Try.pinned (OpenSpec.upto fnCodeRunSpec)

end Rows
end Go.Proofs.Ytndbfdgflflfpaa
