/- The laws' helpers on slices of ints: toIntS copies, eqIntS compares. -/
import Derived.Test.YtnalhgknjnaliaaRows
import Derived.Test.YtnalhgknjnaliaaBase
import Derived.Deep.OwnRows
import Derived.Deep.QuietTactic
import Derived.BigQuiet
import Derived.Outline
namespace Go.Proofs.Ytnalhgknjnaliaa
open Go.RowKit

theorem infoInt : (Try.prog.info? 3).map (fun i => (i.zero, i.size, i.bytes)) = some (some (.int .i64 0), 1, 8) := by kernel_rfl

theorem quiet_same {P : Program} {f : FuncId} {args : Array Value} {w : World} {n : Nat} {v : Value}
    (h : Calls P f args (w.drewN n) fun e w' => e = .returned v ∧ w.drewN n = w') : Calls P f args (w.drewN n) fun e w'' => e = .returned v ∧ ∃ m, w'' = w.drewN m :=
  h.mono fun _ _ ⟨he, hm⟩ => ⟨he, n, hm.symm⟩

/-- A row of the call's own, whole, reads as a slice. -/
theorem IntS.ofRow {w : World} {b : Nat} {t : TypeId} {zs : List Int} {f : Nat → Value} (h : w.rowIs b t zs.length f) (hf : ∀ j, j < zs.length → f j = .int .i64 (zs.getD j 0)) (hz : ∀ z ∈ zs, I64 z) (hm : zs.length ≤ maxLen) :
    IntS w (.slice (some ⟨b, 0, none⟩) zs.length zs.length) zs :=
  ⟨hz, _, _, rfl, Nat.le_refl _, hm, .inr ⟨b, 0, rfl, h.lt, fun j hj => by rw [Nat.zero_add, h.cell hj, hf j hj]⟩⟩

end Go.Proofs.Ytnalhgknjnaliaa
