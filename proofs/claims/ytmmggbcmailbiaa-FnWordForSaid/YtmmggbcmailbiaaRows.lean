/-
  No cell of these rows narrows 'for every input' (looked for: loops, veiled, ifaces, maps, wideKeys, modest, calm, conditions, laid).
  DERIVED. THE GIVEN ROWS OF THIS SEAT. 13 by the template 'for every input the law returns true; each argument reads behind the call as it read before'; 0 by the template 'total and deterministic' (their statements: YtmmggbcmailbiaaTotals.lean).
  GIVEN WITH THE SEED: the statements are not yours to turn. If you find one false, say at which input.
  Laid BY PROGRAM, IN A SANDBOX (cutbox-rows.mjs): the forced cells as the released guide's own fill.sh prints them over the translation d33c060c437fdf62… (all of the seat's roots in one cut). By AI agents, Wed Nov 11 2026. No macro, syntax, notation, axiom, sorry.
-/
import Derived.Test.YtmmggbcmailbiaaChecked
import GoSem.Claim
import GoSem.ClaimJoined
import GoSem.ClaimMapViews
import Derived.JoinedTies
import Derived.KernelRfl
namespace Go.Proofs.Ytmmggbcmailbiaa
/- THE CELL 'sum', in the pinned program and in every row, IS THE sha256 OF THE DUMP (.gsa) THAT YtmmggbcmailbiaaProg.lean LOADS. Nothing in Lean hashes anything: it is a label: what it is worth is what the hold of that sum in a sandbox is worth. -/
noncomputable def Try.pinned : Pinned := { name := "ytmmggbcmailbiaa", sum := "d33c060c437fdf629f20d80209ebba89b2cd8bf533bed137b6fa4cc794d2b5ec", checked := Try.checked }
namespace Rows
def none {H : Type} : Left H := { results := [], args := [] }

/-- 'laws.FnWordFor': WHATEVER THE INPUT: true; the input reads as it did. -/
def fnWordForSpec : ChangeSpec := { name := "fnWordFor", fn := fun _ => fun
  | [d] => { results := [.lit (.bool true)], args := [d] }
  | _ => none }
def fnWordForRow : OpenClaim := { program := "ytmmggbcmailbiaa", sum := "d33c060c437fdf629f20d80209ebba89b2cd8bf533bed137b6fa4cc794d2b5ec", func := "loop.example/switchpuzzles/laws.FnWordFor", spec := "fnWordFor", unfollowed := true, recurses := true, apart := false }
def FnWordForSaid : Prop := fnWordForRow.holds Try.pinned (OpenSpec.ofChange fnWordForSpec)

/-- ITS FALSE NEIGHBOUR: 'it returns false'. Refute it at one input. -/
def fnWordForWrong : ChangeSpec := { name := "fnWordFor", fn := fun _ => fun
  | [d] => { results := [.lit (.bool false)], args := [d] }
  | _ => none }
def FnWordForWrongFalsely : Prop := fnWordForRow.holds Try.pinned (OpenSpec.ofChange fnWordForWrong)

/-- 'laws.FnGroupHas': WHATEVER THE INPUT: true; the input reads as it did. -/
def fnGroupHasSpec : ChangeSpec := { name := "fnGroupHas", fn := fun _ => fun
  | [d] => { results := [.lit (.bool true)], args := [d] }
  | _ => none }
def fnGroupHasRow : OpenClaim := { program := "ytmmggbcmailbiaa", sum := "d33c060c437fdf629f20d80209ebba89b2cd8bf533bed137b6fa4cc794d2b5ec", func := "loop.example/switchpuzzles/laws.FnGroupHas", spec := "fnGroupHas", unfollowed := true, recurses := true, apart := false }
def FnGroupHasSaid : Prop := fnGroupHasRow.holds Try.pinned (OpenSpec.ofChange fnGroupHasSpec)

/-- ITS FALSE NEIGHBOUR: 'it returns false'. Refute it at one input. -/
def fnGroupHasWrong : ChangeSpec := { name := "fnGroupHas", fn := fun _ => fun
  | [d] => { results := [.lit (.bool false)], args := [d] }
  | _ => none }
def FnGroupHasWrongFalsely : Prop := fnGroupHasRow.holds Try.pinned (OpenSpec.ofChange fnGroupHasWrong)

/-- 'laws.FnExactWordFor': WHATEVER THE INPUT: true; the input reads as it did. -/
def fnExactWordForSpec : ChangeSpec := { name := "fnExactWordFor", fn := fun _ => fun
  | [d1, d2, d3] => { results := [.lit (.bool true)], args := [d1, d2, d3] }
  | _ => none }
def fnExactWordForRow : OpenClaim := { program := "ytmmggbcmailbiaa", sum := "d33c060c437fdf629f20d80209ebba89b2cd8bf533bed137b6fa4cc794d2b5ec", func := "loop.example/switchpuzzles/laws.FnExactWordFor", spec := "fnExactWordFor", apart := false }
def FnExactWordForSaid : Prop := fnExactWordForRow.holds Try.pinned (OpenSpec.ofChange fnExactWordForSpec)

/-- ITS FALSE NEIGHBOUR: 'it returns false'. Refute it at one input. -/
def fnExactWordForWrong : ChangeSpec := { name := "fnExactWordFor", fn := fun _ => fun
  | [d1, d2, d3] => { results := [.lit (.bool false)], args := [d1, d2, d3] }
  | _ => none }
def FnExactWordForWrongFalsely : Prop := fnExactWordForRow.holds Try.pinned (OpenSpec.ofChange fnExactWordForWrong)

/-- 'laws.FnExactLeavingOrder': WHATEVER THE INPUT: true; the input reads as it did. -/
def fnExactLeavingOrderSpec : ChangeSpec := { name := "fnExactLeavingOrder", fn := fun _ => fun
  | [d1, d2, d3] => { results := [.lit (.bool true)], args := [d1, d2, d3] }
  | _ => none }
def fnExactLeavingOrderRow : OpenClaim := { program := "ytmmggbcmailbiaa", sum := "d33c060c437fdf629f20d80209ebba89b2cd8bf533bed137b6fa4cc794d2b5ec", func := "loop.example/switchpuzzles/laws.FnExactLeavingOrder", spec := "fnExactLeavingOrder", unfollowed := true, recurses := true, apart := false }
def FnExactLeavingOrderSaid : Prop := fnExactLeavingOrderRow.holds Try.pinned (OpenSpec.ofChange fnExactLeavingOrderSpec)

/-- ITS FALSE NEIGHBOUR: 'it returns false'. Refute it at one input. -/
def fnExactLeavingOrderWrong : ChangeSpec := { name := "fnExactLeavingOrder", fn := fun _ => fun
  | [d1, d2, d3] => { results := [.lit (.bool false)], args := [d1, d2, d3] }
  | _ => none }
def FnExactLeavingOrderWrongFalsely : Prop := fnExactLeavingOrderRow.holds Try.pinned (OpenSpec.ofChange fnExactLeavingOrderWrong)

/-- 'laws.FnExactGroupOrder': WHATEVER THE INPUT: true; the input reads as it did. -/
def fnExactGroupOrderSpec : ChangeSpec := { name := "fnExactGroupOrder", fn := fun _ => fun
  | [d1, d2] => { results := [.lit (.bool true)], args := [d1, d2] }
  | _ => none }
def fnExactGroupOrderRow : OpenClaim := { program := "ytmmggbcmailbiaa", sum := "d33c060c437fdf629f20d80209ebba89b2cd8bf533bed137b6fa4cc794d2b5ec", func := "loop.example/switchpuzzles/laws.FnExactGroupOrder", spec := "fnExactGroupOrder", unfollowed := true, recurses := true, apart := false }
def FnExactGroupOrderSaid : Prop := fnExactGroupOrderRow.holds Try.pinned (OpenSpec.ofChange fnExactGroupOrderSpec)

/-- ITS FALSE NEIGHBOUR: 'it returns false'. Refute it at one input. -/
def fnExactGroupOrderWrong : ChangeSpec := { name := "fnExactGroupOrder", fn := fun _ => fun
  | [d1, d2] => { results := [.lit (.bool false)], args := [d1, d2] }
  | _ => none }
def FnExactGroupOrderWrongFalsely : Prop := fnExactGroupOrderRow.holds Try.pinned (OpenSpec.ofChange fnExactGroupOrderWrong)

/-- 'laws.FnExactGroupHas': WHATEVER THE INPUT: true; the input reads as it did. -/
def fnExactGroupHasSpec : ChangeSpec := { name := "fnExactGroupHas", fn := fun _ => fun
  | [d1, d2, d3] => { results := [.lit (.bool true)], args := [d1, d2, d3] }
  | _ => none }
def fnExactGroupHasRow : OpenClaim := { program := "ytmmggbcmailbiaa", sum := "d33c060c437fdf629f20d80209ebba89b2cd8bf533bed137b6fa4cc794d2b5ec", func := "loop.example/switchpuzzles/laws.FnExactGroupHas", spec := "fnExactGroupHas", unfollowed := true, recurses := true, apart := false }
def FnExactGroupHasSaid : Prop := fnExactGroupHasRow.holds Try.pinned (OpenSpec.ofChange fnExactGroupHasSpec)

/-- ITS FALSE NEIGHBOUR: 'it returns false'. Refute it at one input. -/
def fnExactGroupHasWrong : ChangeSpec := { name := "fnExactGroupHas", fn := fun _ => fun
  | [d1, d2, d3] => { results := [.lit (.bool false)], args := [d1, d2, d3] }
  | _ => none }
def FnExactGroupHasWrongFalsely : Prop := fnExactGroupHasRow.holds Try.pinned (OpenSpec.ofChange fnExactGroupHasWrong)

/-- 'laws.FnOrbitsMany': WHATEVER THE INPUT: true; the input reads as it did. -/
def fnOrbitsManySpec : ChangeSpec := { name := "fnOrbitsMany", fn := fun _ => fun
  | [d] => { results := [.lit (.bool true)], args := [d] }
  | _ => none }
def fnOrbitsManyRow : OpenClaim := { program := "ytmmggbcmailbiaa", sum := "d33c060c437fdf629f20d80209ebba89b2cd8bf533bed137b6fa4cc794d2b5ec", func := "loop.example/switchpuzzles/laws.FnOrbitsMany", spec := "fnOrbitsMany", unfollowed := true, recurses := true, apart := false }
def FnOrbitsManySaid : Prop := fnOrbitsManyRow.holds Try.pinned (OpenSpec.ofChange fnOrbitsManySpec)

/-- ITS FALSE NEIGHBOUR: 'it returns false'. Refute it at one input. -/
def fnOrbitsManyWrong : ChangeSpec := { name := "fnOrbitsMany", fn := fun _ => fun
  | [d] => { results := [.lit (.bool false)], args := [d] }
  | _ => none }
def FnOrbitsManyWrongFalsely : Prop := fnOrbitsManyRow.holds Try.pinned (OpenSpec.ofChange fnOrbitsManyWrong)

/-- 'laws.FnGroupAll': WHATEVER THE INPUT: true; the input reads as it did. -/
def fnGroupAllSpec : ChangeSpec := { name := "fnGroupAll", fn := fun _ => fun
  | [d] => { results := [.lit (.bool true)], args := [d] }
  | _ => none }
def fnGroupAllRow : OpenClaim := { program := "ytmmggbcmailbiaa", sum := "d33c060c437fdf629f20d80209ebba89b2cd8bf533bed137b6fa4cc794d2b5ec", func := "loop.example/switchpuzzles/laws.FnGroupAll", spec := "fnGroupAll", apart := false }
def FnGroupAllSaid : Prop := fnGroupAllRow.holds Try.pinned (OpenSpec.ofChange fnGroupAllSpec)

/-- ITS FALSE NEIGHBOUR: 'it returns false'. Refute it at one input. -/
def fnGroupAllWrong : ChangeSpec := { name := "fnGroupAll", fn := fun _ => fun
  | [d] => { results := [.lit (.bool false)], args := [d] }
  | _ => none }
def FnGroupAllWrongFalsely : Prop := fnGroupAllRow.holds Try.pinned (OpenSpec.ofChange fnGroupAllWrong)

/-- 'laws.FnWordPerm': WHATEVER THE INPUT: true; the input reads as it did. -/
def fnWordPermSpec : ChangeSpec := { name := "fnWordPerm", fn := fun _ => fun
  | [d] => { results := [.lit (.bool true)], args := [d] }
  | _ => none }
def fnWordPermRow : OpenClaim := { program := "ytmmggbcmailbiaa", sum := "d33c060c437fdf629f20d80209ebba89b2cd8bf533bed137b6fa4cc794d2b5ec", func := "loop.example/switchpuzzles/laws.FnWordPerm", spec := "fnWordPerm", unfollowed := true, recurses := true, apart := false }
def FnWordPermSaid : Prop := fnWordPermRow.holds Try.pinned (OpenSpec.ofChange fnWordPermSpec)

/-- ITS FALSE NEIGHBOUR: 'it returns false'. Refute it at one input. -/
def fnWordPermWrong : ChangeSpec := { name := "fnWordPerm", fn := fun _ => fun
  | [d] => { results := [.lit (.bool false)], args := [d] }
  | _ => none }
def FnWordPermWrongFalsely : Prop := fnWordPermRow.holds Try.pinned (OpenSpec.ofChange fnWordPermWrong)

/-- 'laws.FnLeavingOrder': WHATEVER THE INPUT: true; the input reads as it did. -/
def fnLeavingOrderSpec : ChangeSpec := { name := "fnLeavingOrder", fn := fun _ => fun
  | [d] => { results := [.lit (.bool true)], args := [d] }
  | _ => none }
def fnLeavingOrderRow : OpenClaim := { program := "ytmmggbcmailbiaa", sum := "d33c060c437fdf629f20d80209ebba89b2cd8bf533bed137b6fa4cc794d2b5ec", func := "loop.example/switchpuzzles/laws.FnLeavingOrder", spec := "fnLeavingOrder", unfollowed := true, recurses := true, apart := false }
def FnLeavingOrderSaid : Prop := fnLeavingOrderRow.holds Try.pinned (OpenSpec.ofChange fnLeavingOrderSpec)

/-- ITS FALSE NEIGHBOUR: 'it returns false'. Refute it at one input. -/
def fnLeavingOrderWrong : ChangeSpec := { name := "fnLeavingOrder", fn := fun _ => fun
  | [d] => { results := [.lit (.bool false)], args := [d] }
  | _ => none }
def FnLeavingOrderWrongFalsely : Prop := fnLeavingOrderRow.holds Try.pinned (OpenSpec.ofChange fnLeavingOrderWrong)

/-- 'laws.FnOrbitOf': WHATEVER THE INPUT: true; the input reads as it did. -/
def fnOrbitOfSpec : ChangeSpec := { name := "fnOrbitOf", fn := fun _ => fun
  | [d] => { results := [.lit (.bool true)], args := [d] }
  | _ => none }
def fnOrbitOfRow : OpenClaim := { program := "ytmmggbcmailbiaa", sum := "d33c060c437fdf629f20d80209ebba89b2cd8bf533bed137b6fa4cc794d2b5ec", func := "loop.example/switchpuzzles/laws.FnOrbitOf", spec := "fnOrbitOf", unfollowed := true, recurses := true, apart := false }
def FnOrbitOfSaid : Prop := fnOrbitOfRow.holds Try.pinned (OpenSpec.ofChange fnOrbitOfSpec)

/-- ITS FALSE NEIGHBOUR: 'it returns false'. Refute it at one input. -/
def fnOrbitOfWrong : ChangeSpec := { name := "fnOrbitOf", fn := fun _ => fun
  | [d] => { results := [.lit (.bool false)], args := [d] }
  | _ => none }
def FnOrbitOfWrongFalsely : Prop := fnOrbitOfRow.holds Try.pinned (OpenSpec.ofChange fnOrbitOfWrong)

/-- 'laws.FnFixedSum': WHATEVER THE INPUT: true; the input reads as it did. -/
def fnFixedSumSpec : ChangeSpec := { name := "fnFixedSum", fn := fun _ => fun
  | [d] => { results := [.lit (.bool true)], args := [d] }
  | _ => none }
def fnFixedSumRow : OpenClaim := { program := "ytmmggbcmailbiaa", sum := "d33c060c437fdf629f20d80209ebba89b2cd8bf533bed137b6fa4cc794d2b5ec", func := "loop.example/switchpuzzles/laws.FnFixedSum", spec := "fnFixedSum", unfollowed := true, recurses := true, apart := false }
def FnFixedSumSaid : Prop := fnFixedSumRow.holds Try.pinned (OpenSpec.ofChange fnFixedSumSpec)

/-- ITS FALSE NEIGHBOUR: 'it returns false'. Refute it at one input. -/
def fnFixedSumWrong : ChangeSpec := { name := "fnFixedSum", fn := fun _ => fun
  | [d] => { results := [.lit (.bool false)], args := [d] }
  | _ => none }
def FnFixedSumWrongFalsely : Prop := fnFixedSumRow.holds Try.pinned (OpenSpec.ofChange fnFixedSumWrong)

/-- 'laws.FnGroupOrder': WHATEVER THE INPUT: true; the input reads as it did. -/
def fnGroupOrderSpec : ChangeSpec := { name := "fnGroupOrder", fn := fun _ => fun
  | [d] => { results := [.lit (.bool true)], args := [d] }
  | _ => none }
def fnGroupOrderRow : OpenClaim := { program := "ytmmggbcmailbiaa", sum := "d33c060c437fdf629f20d80209ebba89b2cd8bf533bed137b6fa4cc794d2b5ec", func := "loop.example/switchpuzzles/laws.FnGroupOrder", spec := "fnGroupOrder", unfollowed := true, recurses := true, apart := false }
def FnGroupOrderSaid : Prop := fnGroupOrderRow.holds Try.pinned (OpenSpec.ofChange fnGroupOrderSpec)

/-- ITS FALSE NEIGHBOUR: 'it returns false'. Refute it at one input. -/
def fnGroupOrderWrong : ChangeSpec := { name := "fnGroupOrder", fn := fun _ => fun
  | [d] => { results := [.lit (.bool false)], args := [d] }
  | _ => none }
def FnGroupOrderWrongFalsely : Prop := fnGroupOrderRow.holds Try.pinned (OpenSpec.ofChange fnGroupOrderWrong)

/- THE SECOND FORM. 'bulk': how many values and letters a reading holds, each counted each time it is reached (what is shared counts as often as it is met; a slice's spare places count too). A statement '..UptoSaid' is the law's where the arguments, and the package variables that the reading takes, are together of bulk at most 1048576: NARROWER than '..Said'. Prove '..Said' where nothing that the law and all that it calls make is longer than what came in: it says more and counts as full. Else prove '..UptoSaid'. A law counts once. -/
mutual
def uptoBulk {H : Type} : DataW H → Nat
  | .lit (.string bytes) => bytes.length + 1
  | .lit _ => 1
  | .nil => 1
  | .ptr d => uptoBulk d + 1
  | .slice elems spare => uptoBulkAll elems + uptoBulkAll spare + 1
  | .agg parts => uptoBulkAll parts + 1
  | .iface _ d => uptoBulk d + 1
  | .map entries => uptoBulkEntries entries + 1
  | .held _ => 1
def uptoBulkAll {H : Type} : List (DataW H) → Nat
  | [] => 0
  | d :: r => uptoBulk d + uptoBulkAll r
def uptoBulkEntries {H : Type} : List (Lit × DataW H) → Nat
  | [] => 0
  | x :: r => uptoBulkEntry x + uptoBulkEntries r
def uptoBulkEntry {H : Type} : Lit × DataW H → Nat
  | (.string bytes, d) => bytes.length + uptoBulk d + 1
  | (_, d) => uptoBulk d + 1
 end
def uptoSmall : (H : Type) → List (DataW H) → Bool := fun _ ds => decide (uptoBulkAll ds ≤ 1048576)
def OpenSpec.upto (s : _root_.Go.ChangeSpec) : _root_.Go.OpenSpec := { _root_.Go.OpenSpec.ofChange s with cond := some uptoSmall }

/-- 'laws.FnWordFor', WHERE WHAT IT READS IS OF BULK AT MOST 1048576: true; the input reads as it did. -/
def fnWordForUptoRow : OpenClaim := { program := "ytmmggbcmailbiaa", sum := "d33c060c437fdf629f20d80209ebba89b2cd8bf533bed137b6fa4cc794d2b5ec", func := "loop.example/switchpuzzles/laws.FnWordFor", spec := "fnWordFor", unfollowed := true, recurses := true, apart := false, narrowed := true }
def FnWordForUptoSaid : Prop := fnWordForUptoRow.holds Try.pinned (OpenSpec.upto fnWordForSpec)

/-- 'laws.FnGroupHas', WHERE WHAT IT READS IS OF BULK AT MOST 1048576: true; the input reads as it did. -/
def fnGroupHasUptoRow : OpenClaim := { program := "ytmmggbcmailbiaa", sum := "d33c060c437fdf629f20d80209ebba89b2cd8bf533bed137b6fa4cc794d2b5ec", func := "loop.example/switchpuzzles/laws.FnGroupHas", spec := "fnGroupHas", unfollowed := true, recurses := true, apart := false, narrowed := true }
def FnGroupHasUptoSaid : Prop := fnGroupHasUptoRow.holds Try.pinned (OpenSpec.upto fnGroupHasSpec)

/-- 'laws.FnExactWordFor', WHERE WHAT IT READS IS OF BULK AT MOST 1048576: true; the input reads as it did. -/
def fnExactWordForUptoRow : OpenClaim := { program := "ytmmggbcmailbiaa", sum := "d33c060c437fdf629f20d80209ebba89b2cd8bf533bed137b6fa4cc794d2b5ec", func := "loop.example/switchpuzzles/laws.FnExactWordFor", spec := "fnExactWordFor", apart := false, narrowed := true }
def FnExactWordForUptoSaid : Prop := fnExactWordForUptoRow.holds Try.pinned (OpenSpec.upto fnExactWordForSpec)

/-- 'laws.FnExactLeavingOrder', WHERE WHAT IT READS IS OF BULK AT MOST 1048576: true; the input reads as it did. -/
def fnExactLeavingOrderUptoRow : OpenClaim := { program := "ytmmggbcmailbiaa", sum := "d33c060c437fdf629f20d80209ebba89b2cd8bf533bed137b6fa4cc794d2b5ec", func := "loop.example/switchpuzzles/laws.FnExactLeavingOrder", spec := "fnExactLeavingOrder", unfollowed := true, recurses := true, apart := false, narrowed := true }
def FnExactLeavingOrderUptoSaid : Prop := fnExactLeavingOrderUptoRow.holds Try.pinned (OpenSpec.upto fnExactLeavingOrderSpec)

/-- 'laws.FnExactGroupOrder', WHERE WHAT IT READS IS OF BULK AT MOST 1048576: true; the input reads as it did. -/
def fnExactGroupOrderUptoRow : OpenClaim := { program := "ytmmggbcmailbiaa", sum := "d33c060c437fdf629f20d80209ebba89b2cd8bf533bed137b6fa4cc794d2b5ec", func := "loop.example/switchpuzzles/laws.FnExactGroupOrder", spec := "fnExactGroupOrder", unfollowed := true, recurses := true, apart := false, narrowed := true }
def FnExactGroupOrderUptoSaid : Prop := fnExactGroupOrderUptoRow.holds Try.pinned (OpenSpec.upto fnExactGroupOrderSpec)

/-- 'laws.FnExactGroupHas', WHERE WHAT IT READS IS OF BULK AT MOST 1048576: true; the input reads as it did. -/
def fnExactGroupHasUptoRow : OpenClaim := { program := "ytmmggbcmailbiaa", sum := "d33c060c437fdf629f20d80209ebba89b2cd8bf533bed137b6fa4cc794d2b5ec", func := "loop.example/switchpuzzles/laws.FnExactGroupHas", spec := "fnExactGroupHas", unfollowed := true, recurses := true, apart := false, narrowed := true }
def FnExactGroupHasUptoSaid : Prop := fnExactGroupHasUptoRow.holds Try.pinned (OpenSpec.upto fnExactGroupHasSpec)

/-- 'laws.FnOrbitsMany', WHERE WHAT IT READS IS OF BULK AT MOST 1048576: true; the input reads as it did. -/
def fnOrbitsManyUptoRow : OpenClaim := { program := "ytmmggbcmailbiaa", sum := "d33c060c437fdf629f20d80209ebba89b2cd8bf533bed137b6fa4cc794d2b5ec", func := "loop.example/switchpuzzles/laws.FnOrbitsMany", spec := "fnOrbitsMany", unfollowed := true, recurses := true, apart := false, narrowed := true }
def FnOrbitsManyUptoSaid : Prop := fnOrbitsManyUptoRow.holds Try.pinned (OpenSpec.upto fnOrbitsManySpec)

/-- 'laws.FnGroupAll', WHERE WHAT IT READS IS OF BULK AT MOST 1048576: true; the input reads as it did. -/
def fnGroupAllUptoRow : OpenClaim := { program := "ytmmggbcmailbiaa", sum := "d33c060c437fdf629f20d80209ebba89b2cd8bf533bed137b6fa4cc794d2b5ec", func := "loop.example/switchpuzzles/laws.FnGroupAll", spec := "fnGroupAll", apart := false, narrowed := true }
def FnGroupAllUptoSaid : Prop := fnGroupAllUptoRow.holds Try.pinned (OpenSpec.upto fnGroupAllSpec)

/-- 'laws.FnWordPerm', WHERE WHAT IT READS IS OF BULK AT MOST 1048576: true; the input reads as it did. -/
def fnWordPermUptoRow : OpenClaim := { program := "ytmmggbcmailbiaa", sum := "d33c060c437fdf629f20d80209ebba89b2cd8bf533bed137b6fa4cc794d2b5ec", func := "loop.example/switchpuzzles/laws.FnWordPerm", spec := "fnWordPerm", unfollowed := true, recurses := true, apart := false, narrowed := true }
def FnWordPermUptoSaid : Prop := fnWordPermUptoRow.holds Try.pinned (OpenSpec.upto fnWordPermSpec)

/-- 'laws.FnLeavingOrder', WHERE WHAT IT READS IS OF BULK AT MOST 1048576: true; the input reads as it did. -/
def fnLeavingOrderUptoRow : OpenClaim := { program := "ytmmggbcmailbiaa", sum := "d33c060c437fdf629f20d80209ebba89b2cd8bf533bed137b6fa4cc794d2b5ec", func := "loop.example/switchpuzzles/laws.FnLeavingOrder", spec := "fnLeavingOrder", unfollowed := true, recurses := true, apart := false, narrowed := true }
def FnLeavingOrderUptoSaid : Prop := fnLeavingOrderUptoRow.holds Try.pinned (OpenSpec.upto fnLeavingOrderSpec)

/-- 'laws.FnOrbitOf', WHERE WHAT IT READS IS OF BULK AT MOST 1048576: true; the input reads as it did. -/
def fnOrbitOfUptoRow : OpenClaim := { program := "ytmmggbcmailbiaa", sum := "d33c060c437fdf629f20d80209ebba89b2cd8bf533bed137b6fa4cc794d2b5ec", func := "loop.example/switchpuzzles/laws.FnOrbitOf", spec := "fnOrbitOf", unfollowed := true, recurses := true, apart := false, narrowed := true }
def FnOrbitOfUptoSaid : Prop := fnOrbitOfUptoRow.holds Try.pinned (OpenSpec.upto fnOrbitOfSpec)

/-- 'laws.FnFixedSum', WHERE WHAT IT READS IS OF BULK AT MOST 1048576: true; the input reads as it did. -/
def fnFixedSumUptoRow : OpenClaim := { program := "ytmmggbcmailbiaa", sum := "d33c060c437fdf629f20d80209ebba89b2cd8bf533bed137b6fa4cc794d2b5ec", func := "loop.example/switchpuzzles/laws.FnFixedSum", spec := "fnFixedSum", unfollowed := true, recurses := true, apart := false, narrowed := true }
def FnFixedSumUptoSaid : Prop := fnFixedSumUptoRow.holds Try.pinned (OpenSpec.upto fnFixedSumSpec)

/-- 'laws.FnGroupOrder', WHERE WHAT IT READS IS OF BULK AT MOST 1048576: true; the input reads as it did. -/
def fnGroupOrderUptoRow : OpenClaim := { program := "ytmmggbcmailbiaa", sum := "d33c060c437fdf629f20d80209ebba89b2cd8bf533bed137b6fa4cc794d2b5ec", func := "loop.example/switchpuzzles/laws.FnGroupOrder", spec := "fnGroupOrder", unfollowed := true, recurses := true, apart := false, narrowed := true }
def FnGroupOrderUptoSaid : Prop := fnGroupOrderUptoRow.holds Try.pinned (OpenSpec.upto fnGroupOrderSpec)

end Rows
end Go.Proofs.Ytmmggbcmailbiaa
