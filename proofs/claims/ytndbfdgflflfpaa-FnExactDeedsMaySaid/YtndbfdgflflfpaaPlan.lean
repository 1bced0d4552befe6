/- PlanRun, of the program and of the reference. -/
import Derived.Test.YtndbfdgflflfpaaTask
import Derived.Outline
import Derived.BigQuiet
import Derived.Deep.RegionHeld3
namespace Go.Proofs.Ytndbfdgflflfpaa
open Go.RowKit

/-- One press: the deed of number k, or -1. -/
def planStep (ds : List DeedM) (k : Int) (S : Nat) : Int := if k < 0 then -1 else match ds[k.toNat]? with
  | some d => behind d S
  | none => -1

def planGo (ds : List DeedM) : List Int → Nat → Int
  | [], S => S
  | k :: l, S => if planStep ds k S < 0 then -1 else planGo ds l (planStep ds k S).toNat

def planRun (t : TaskM) (n : Int) (plan : List Int) : Int := if taskValid t && inS n && decide (plan.length ≤ 40) then planGo t.deeds plan n.toNat else -1

theorem plan_low {ds : List DeedM} {k : Int} {l : List Int} {S : Nat} (h : k < 0) : planGo ds (k :: l) S = -1 := by
  rw [planGo, planStep, if_pos h]; rfl
theorem plan_high {ds : List DeedM} {q : Nat} {l : List Int} {S : Nat} (h : ds.length ≤ q) : planGo ds ((q : Int) :: l) S = -1 := by
  have e : planStep ds (q : Int) S = -1 := by rw [planStep, if_neg (by omega), Int.toNat_natCast, List.getElem?_eq_none h]
  rw [planGo, e]; rfl
theorem plan_at {ds : List DeedM} {q : Nat} {l : List Int} {S : Nat} {d : DeedM} (h : ds[q]? = some d) : planGo ds ((q : Int) :: l) S = if behind d S < 0 then -1 else planGo ds l (behind d S).toNat := by
  have e : planStep ds (q : Int) S = behind d S := by rw [planStep, if_neg (by omega), Int.toNat_natCast, h]
  rw [planGo, e]

theorem taskValid_parts {t : TaskM} (h : taskValid t = true) : inS t.start = true ∧ codeValid t.goal = true ∧ t.deeds.length ≤ 6 ∧ ∀ d ∈ t.deeds, deedValid d = true := by
  unfold taskValid at h
  simp only [Bool.and_eq_true, decide_eq_true_eq, List.all_eq_true] at h
  exact ⟨h.1.1.1, h.1.1.2, h.1.2, h.2⟩

end Go.Proofs.Ytndbfdgflflfpaa
