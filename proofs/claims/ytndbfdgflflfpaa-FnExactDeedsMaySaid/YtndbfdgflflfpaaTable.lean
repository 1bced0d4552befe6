/- behindAll, nextStates, backStates: the program's table of the states behind the deeds. -/
import Derived.Test.YtndbfdgflflfpaaPlan
import Derived.Test.YtndbfdgflflfpaaOwn
import Derived.Deep.WholeRow
import Derived.Deep.MidRow
import Derived.Deep.RegionHeld3
import Derived.Outline
namespace Go.Proofs.Ytndbfdgflflfpaa
open Go.RowKit


/-- The number at place p of the table. -/
def tabAt (ds : List DeedM) (p : Nat) : Int := match ds[p / 32]? with
  | some d => behind d (p % 32)
  | none => -1

theorem tabAt_at {ds : List DeedM} {k s : Nat} {d : DeedM} (h : ds[k]? = some d) (hs : s < 32) : tabAt ds (k * 32 + s) = behind d s := by
  unfold tabAt
  rw [show (k * 32 + s) / 32 = k by omega, h, show (k * 32 + s) % 32 = s by omega]

theorem cell_other {w : World} {b i g j : Nat} {u x : Value} (h : w.cell? ⟨b, i, none⟩ = some x) (hne : b ≠ g) : (w.setCell ⟨g, j, none⟩ u).cell? ⟨b, i, none⟩ = some x := by
  have := Below.heap_setCell w ⟨g, j, none⟩ u b (by simpa using fun e => hne e)
  unfold World.cell? at h ⊢
  rw [this]; exact h

end Go.Proofs.Ytndbfdgflflfpaa
