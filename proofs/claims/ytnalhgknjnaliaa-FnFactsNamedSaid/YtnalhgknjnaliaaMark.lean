/- markIntS writes 1, 2, .. (from k on) into a slice of the call's own, heldIntS looks whether they are there. -/
import Derived.Test.YtnalhgknjnaliaaRows
import Derived.Test.YtnalhgknjnaliaaOwn
import Derived.Test.YtnalhgknjnaliaaInts
import Derived.Outline
namespace Go.Proofs.Ytnalhgknjnaliaa
open Go.RowKit

def marks : Int → Nat → List Int
  | _, 0 => []
  | k, n + 1 => k :: marks (k + 1) n

theorem marks_length : ∀ (k : Int) (n : Nat), (marks k n).length = n
  | _, 0 => rfl
  | k, n + 1 => by simp [marks, marks_length]

theorem marks_getD : ∀ (k : Int) (n j : Nat), j < n → (marks k n).getD j 0 = k + j
  | _, 0, j, h => by omega
  | k, n + 1, 0, _ => by simp [marks]
  | k, n + 1, j + 1, h => by
    have := marks_getD (k + 1) n j (by omega)
    simp only [marks, List.getD_cons_succ, this]
    omega

theorem marks_mem {k : Int} {n : Nat} {z : Int} (h : z ∈ marks k n) : k ≤ z ∧ z < k + n := by
  obtain ⟨j, hj, rfl⟩ := List.mem_iff_getElem.1 h
  rw [marks_length] at hj
  have := marks_getD k n j hj
  have e : (marks k n)[j] = (marks k n).getD j 0 := by simp [List.getD, marks_length, hj]
  rw [e, this]; omega

theorem own_of_row {w : World} {b : Nat} {t : TypeId} {n : Nat} {f : Nat → Value} {xs : List Value} (h : w.rowIs b t n f) (hl : xs.length = n) (hx : ∀ j, j < n → xs[j]? = some (f j)) (hm : n ≤ maxLen) :
    w.ownsRow b t 1 (.slice (some ⟨b, 0, none⟩) n n) n xs := by
  obtain ⟨c, hb, hn, hc⟩ := h
  refine ⟨by omega, .inr ⟨b, n, c, rfl, Nat.le_refl _, hb, Nat.le_refl _, hm, by omega, ?_⟩⟩
  refine List.ext_getElem? fun j => ?_
  by_cases hj : j < n
  · rw [List.getElem?_take, if_pos (by omega), hx j hj, ← hc j hj]; simp
  · rw [List.getElem?_eq_none (by simp; omega), List.getElem?_eq_none (by omega)]

end Go.Proofs.Ytnalhgknjnaliaa
