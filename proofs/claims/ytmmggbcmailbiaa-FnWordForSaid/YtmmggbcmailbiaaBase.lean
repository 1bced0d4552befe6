/- Plain words on slices of ints in memory, and small lemmas; no program in sight. -/
import Derived.WalkKit
import Derived.WalkSpells
import Derived.WalkLawsBesides
import Derived.Handy
import Derived.Deep.Draws
namespace Go.Proofs.Ytmmggbcmailbiaa
open Go.RowKit

theorem hidI {p : Prop} (h : p) : Hid p := h

/-- z is an int64. -/
def I64 (z : Int) : Prop := -9223372036854775808 ≤ z ∧ z ≤ 9223372036854775807

/-- v is a slice of ints that reads as zs in w. -/
def IntS (w : World) (v : Value) (zs : List Int) : Prop :=
  (∀ z ∈ zs, I64 z) ∧ ∃ ao cap, v = .slice ao zs.length cap ∧ zs.length ≤ cap ∧ cap ≤ maxLen ∧
   (zs = [] ∧ (ao = none → cap = 0) ∨ ∃ b off, ao = some ⟨b, off, none⟩ ∧ b < w.heap.size ∧ ∀ j, j < zs.length → w.cell? ⟨b, off + j, none⟩ = some (.int .i64 (zs.getD j 0)))

theorem IntS.below {w w' : World} {v : Value} {zs : List Int} (h : IntS w v zs) (hb : Below w.heap.size w w') : IntS w' v zs := by
  obtain ⟨h0, ao, cap, rfl, h1, h2, h3⟩ := h
  refine ⟨h0, ao, cap, rfl, h1, h2, ?_⟩
  rcases h3 with h3 | ⟨b, off, rfl, h4, h5⟩
  · exact .inl h3
  · exact .inr ⟨b, off, rfl, Nat.lt_of_lt_of_le h4 hb.size, fun j hj => (hb.cell (p := ⟨b, off + j, none⟩) h4).trans (h5 j hj)⟩

theorem IntS.nil (w : World) : IntS w (.slice none 0 0) [] := ⟨by simp, none, 0, rfl, by simp, by simp, .inl ⟨rfl, fun _ => rfl⟩⟩

/-- The element at a place, and the list from there on. -/
theorem at_k (zs : List Int) (k : Nat) : ∃ z, Hid (k < zs.length → zs.drop k = z :: zs.drop (k + 1)) ∧ Hid (k < zs.length → zs.getD k 0 = z) ∧ (∀ P : Int → Prop, (∀ z ∈ zs, P z) → k < zs.length → P z) := by
  refine ⟨zs.getD k 0, ?_, ?_, ?_⟩
  · intro h
    rw [List.drop_eq_getElem_cons h]
    simp [List.getD, h]
  · intro _; rfl
  · intro P h hk
    have : zs.getD k 0 = zs[k] := by simp [List.getD, hk]
    rw [this]
    exact h _ (List.getElem_mem hk)

/-- One call behind the other. -/
theorem bthen {w w1 w2 : World} (h : Below w.heap.size w w1) (k : Below w1.heap.size w1 w2) : Below w.heap.size w w2 := h.trans (k.mono h.size)
theorem bdraw (w : World) (n : Nat) : Below w.heap.size w (w.drewN n) := ⟨rfl, rfl, rfl, Nat.le_refl _, fun _ _ => rfl⟩

theorem ret_int {k : IntKind} {a b : Int} (h : a = b) : Ending.returned (.int k a) = .returned (.int k b) := by rw [h]
theorem ret_bool {a b : Bool} (h : a = b) : Ending.returned (.bool a) = .returned (.bool b) := by rw [h]

end Go.Proofs.Ytmmggbcmailbiaa
