/- The form's reading of the arguments, opened. -/
import Derived.Test.YtmmggbcmailbiaaInts
import Derived.ProofKit
import Derived.OpenShut
namespace Go.Proofs.Ytmmggbcmailbiaa
open Go.ChangeShapes Go.WideShapes Go.ChangeAt Go.RowKit

theorem own : ownKnob Try.prog.godebug = none := by kernel_rfl
theorem laidOut : laidOutB Try.prog = true := by kernel_rfl
theorem cellsInt : Try.prog.cellsOf 3 = 1 := by kernel_rfl

theorem i64_of_wf {n : Int} (h : (Lit.int .i64 n).wf = true) : I64 n := by
  have h1 : IntKind.i64.min = -9223372036854775808 := rfl
  have h2 : IntKind.i64.max = 9223372036854775807 := rfl
  simp only [Lit.wf, Bool.and_eq_true, decide_eq_true_eq] at h
  unfold I64
  omega

theorem open_IntS_cs {H : Type} {enc : TypeId × Value → H} {W : World} {fuel : Nat} {v : Value} {y : DataW H × List MemPlace}
    (hf : DataW.trod enc Try.prog W 0 (fun _ => true) true fuel 24 [v] = some y) (hlt : ∀ x ∈ y.2, x.block < W.heap.size) : ∃ zs, IntS W v zs := by
  rcases open_ints Try.underlying24 Try.underlying3 cellsInt hf with ⟨hcs, hx⟩ | ⟨a, len, cap, zs, hcs, _, hl, hm, hz, hx, hcell, hwz⟩
  · obtain rfl : v = .slice none 0 0 := by simpa using hcs
    exact ⟨[], IntS.nil W⟩
  · obtain rfl : v = .slice (some a) len cap := by simpa using hcs
    subst hx
    simp only [if_true] at hz
    have hlen : (zs.take len).length = len := by simp; omega
    refine ⟨zs.take len, fun z hz' => i64_of_wf (hwz z (List.mem_of_mem_take hz')), some a, cap, by rw [hlen], by omega, hm, ?_⟩
    by_cases hl0 : len = 0
    · subst hl0; exact .inl ⟨rfl, fun h => by cases h⟩
    · obtain ⟨b, off, spot⟩ := a
      have hspot : spot = none := by simpa [Addr.add] using World.cell?_spot (hcell 0 (by omega))
      subst hspot
      refine .inr ⟨b, off, rfl, hlt (.cell b off) (MemPlace.mem_row.2 ⟨0, by omega, by simp⟩), fun j hj => ?_⟩
      rw [← add_plain, hcell j (by omega)]
      simp [List.getD, show j < len by omega]

set_option maxRecDepth 100000 in
/-- An argument of type []int reads as some numbers. -/
theorem open_IntS {H : Type} {enc : TypeId × Value → H} {W : World} {base : Nat} {v : Value} {d : DataW H} {p : List MemPlace}
    (hok : Value.okWide Try.prog W .any base 24 v) (h : DataW.Trod enc Try.prog W 0 (fun _ => true) true 24 v d p) (hlt : ∀ x ∈ p, x.block < W.heap.size) : ∃ zs, IntS W v zs := by
  obtain ⟨a0, len, cap, rfl⟩ := okWide_slice Try.underlying24 hok
  obtain ⟨fuel, hf⟩ := h
  exact open_IntS_cs (by simpa [Value.cells] using hf) hlt

theorem open_I64_cs {H : Type} {enc : TypeId × Value → H} {W : World} {fuel : Nat} {v : Value} {y : DataW H × List MemPlace}
    (hf : DataW.trod enc Try.prog W 0 (fun _ => true) true fuel 3 [v] = some y) : ∃ n, v = .int .i64 n ∧ I64 n := by
  obtain ⟨n, h, _, hw⟩ := DataW.trod_int Try.underlying3 hf
  exact ⟨n, by simpa using h, i64_of_wf hw⟩

set_option maxRecDepth 100000 in
/-- An argument of type int. -/
theorem open_I64 {H : Type} {enc : TypeId × Value → H} {W : World} {base : Nat} {v : Value} {d : DataW H} {p : List MemPlace}
    (hok : Value.okWide Try.prog W .any base 3 v) (h : DataW.Trod enc Try.prog W 0 (fun _ => true) true 3 v d p) : ∃ n, v = .int .i64 n ∧ I64 n := by
  obtain ⟨n, rfl, rfl, rfl, hw⟩ := open_int Try.underlying3 hok h
  exact ⟨n, rfl, i64_of_wf hw⟩

theorem shut_true {H : Type} {enc : TypeId × Value → H} {W : World} {b : Nat} {sp : Nat → Bool} {hd : Bool} : DataW.TrodAll enc Try.prog W b sp hd [4] [.bool true] [.lit (.bool true)] [] :=
  trodAll_cons_mk (shut_bool Try.underlying4 _) trodAll_mk0
end Go.Proofs.Ytmmggbcmailbiaa
