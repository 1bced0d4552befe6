/- The last step of a tree, where a part begins, and the tree turned round at its facts. -/
import Derived.Test.YtndbfdgflflfpaaTree
import Derived.Test.YtndbfdgflflfpaaSpan
namespace Go.Proofs.Ytndbfdgflflfpaa
open Go.RowKit

theorem ta_single_single (v : Value) (w : World) : (Instr.typeAssert (.iface 102 v) 82 102 true).run Try.prog w = .ok (.tuple #[v, .bool true]) w := by kernel_rfl
theorem ta_single_turned (v : Value) (w : World) : (Instr.typeAssert (.iface 102 v) 82 105 true).run Try.prog w = .ok (.tuple #[.agg #[.nilIface], .bool false]) w := by kernel_rfl
theorem ta_single_joined (v : Value) (w : World) : (Instr.typeAssert (.iface 102 v) 82 109 true).run Try.prog w = .ok (.tuple #[.agg #[.int .i64 0, .nilIface, .nilIface], .bool false]) w := by kernel_rfl
theorem ta_turned_single (v : Value) (w : World) : (Instr.typeAssert (.iface 105 v) 82 102 true).run Try.prog w = .ok (.tuple #[.agg #[.int .i64 0], .bool false]) w := by kernel_rfl
theorem ta_turned_turned (v : Value) (w : World) : (Instr.typeAssert (.iface 105 v) 82 105 true).run Try.prog w = .ok (.tuple #[v, .bool true]) w := by kernel_rfl
theorem ta_turned_joined (v : Value) (w : World) : (Instr.typeAssert (.iface 105 v) 82 109 true).run Try.prog w = .ok (.tuple #[.agg #[.int .i64 0, .nilIface, .nilIface], .bool false]) w := by kernel_rfl
theorem ta_joined_single (v : Value) (w : World) : (Instr.typeAssert (.iface 109 v) 82 102 true).run Try.prog w = .ok (.tuple #[.agg #[.int .i64 0], .bool false]) w := by kernel_rfl
theorem ta_joined_turned (v : Value) (w : World) : (Instr.typeAssert (.iface 109 v) 82 105 true).run Try.prog w = .ok (.tuple #[.agg #[.nilIface], .bool false]) w := by kernel_rfl
theorem ta_joined_joined (v : Value) (w : World) : (Instr.typeAssert (.iface 109 v) 82 109 true).run Try.prog w = .ok (.tuple #[v, .bool true]) w := by kernel_rfl

set_option maxRecDepth 100000 in
theorem impl_lastStep (c : Cond) (w : World) : Calls Try.prog 81 #[c.val] w fun e w' => e = .returned (.int .i64 c.last) ∧ Below w.heap.size w w' := by
  cases c with
  | one s =>
    unfold Cond.val
    have q1 := ta_single_single
    go_enter Try.func81, Try.ntmps81
    go_wp2_with fail
    go_ret
    exact ⟨rfl, (Below.refl _ _).alloc (Nat.le_refl _) _⟩
  | neg c =>
    unfold Cond.val
    obtain ⟨t, v, hv⟩ := c.shape
    rw [hv]
    have q1 := ta_turned_single; have q2 := ta_turned_joined
    go_enter Try.func81, Try.ntmps81
    go_wp2_with fail
    go_ret
    exact ⟨rfl, Below.refl _ _⟩
  | two s l h =>
    unfold Cond.val
    obtain ⟨t, v, hv⟩ := l.shape
    obtain ⟨t2, v2, hv2⟩ := h.shape
    rw [hv, hv2]
    have q1 := ta_joined_single; have q2 := ta_joined_joined
    go_enter Try.func81, Try.ntmps81
    go_wp2_with fail
    go_ret
    exact ⟨rfl, (Below.refl _ _).alloc (Nat.le_refl _) _⟩
end Go.Proofs.Ytndbfdgflflfpaa
