/- The draws of the groups' laws: DrawOrbitOf, DrawLeavingOrder, DrawWordPerm, DrawGroupHas, DrawWordFor. -/
import Derived.Test.YtmmggbcmailbiaaGL
import Derived.Test.YtmmggbcmailbiaaGWQ
import Derived.OwnWalk
namespace Go.Proofs.Ytmmggbcmailbiaa
open Go.ChangeShapes Go.WideShapes Go.ChangeAt Go.RowKit Grp

/-- A number of places, generators, and a place. -/
def DrawnX (w w' : World) (e : Ending) : Prop := ∃ (q x : Int) (g c : Nat) (us : List Value) (pss : List (List Int)), e = .returned (.tuple #[.int .i64 q, .slice (some ⟨g, 0, none⟩) pss.length c, .int .i64 x]) ∧ 0 ≤ q ∧ q ≤ 5 ∧ -1 ≤ x ∧ x ≤ 5 ∧ pss.length ≤ 6 ∧ (∀ p ∈ pss, p.length ≤ 4000000) ∧
  RowsOwn w' w.heap.size (.slice (some ⟨g, 0, none⟩) pss.length c) us pss ∧ Below w.heap.size w w'

theorem div_nineteen {y : Nat} (h : (y : Int) < 20) : 0 ≤ (y : Int) / 19 ∧ (y : Int) / 19 ≤ 1 := by omega

set_option maxRecDepth 100000 in
set_option maxHeartbeats 1000000 in
theorem spec_DrawOrbitOf (n : Nat) (v : Value) (w : World) (h : BytS w w.heap.size v n) :
    Calls Try.prog 53 #[v] w fun e w' => DrawnX w w' e := by
  obtain ⟨bao, bcap, hv⟩ : ∃ ao cap, v = .slice ao n cap := by obtain ⟨ao, cap, h1, _⟩ := h; exact ⟨ao, cap, h1⟩
  subst hv
  have HV := hidI h; clear h
  go_enter Try.func53, Try.ntmps53
  go_wp2_with fail
  refine (spec_l20Open n _ w HV.out).mono ?_; rintro e w1 ⟨rfl, hr, b1⟩
  have HR := hidI hr; have B1 := hidI b1; have hlt := hr.lt; clear hr b1
  go_wp2_with fail
  refine (spec_l20Moves w.heap.size 0 12 w1 HR.out (by omega) (by omega) (by omega)).mono ?_; rintro e w2 ⟨q, g, c, us, pss, rfl, h1, h2, h3, h4, h5, h6, h7⟩
  have RO := hidI h5; have R2 := hidI h6; have G2 := hidI h7
  have HL := hidI (show ∀ p ∈ pss, p.length ≤ 4000000 from fun p hp => by have := h4 p hp; omega)
  clear h4 h5 h6 h7 HR
  go_wp2_with fail
  refine (spec_pickI w.heap.size _ (q + 1) _ R2.out (by omega) (by omega) (by omega)).mono ?_; rintro e w3 ⟨x, rfl, hx, r3, g3⟩
  have RO3 := hidI (RO.out.reader R2.out hlt g3); have R3 := hidI r3; have G3 := hidI (grown_trans G2.out g3)
  clear r3 g3 RO R2 G2
  go_wp2_with fail
  refine (spec_pickI w.heap.size _ 20 _ R3.out (by omega) (by omega) (by omega)).mono ?_; rintro e w4 ⟨y, rfl, hy, r4, g4⟩
  have RO4 := hidI (RO3.out.reader R3.out hlt g4); have G4 := hidI (grown_trans G3.out g4)
  clear r4 g4 RO3 R3 G3
  obtain ⟨hy0, hy1⟩ := div_nineteen hy
  go_wp2_with fail
  go_ret3
  exact ⟨q, _, g, c, us, pss, rfl, h1, h2, by omega, by omega, h3, HL.out, RO4.out.base B1.out.size, B1.out.grown G4.out B1.out.size (fun k hk => by cases hk; exact Nat.le_refl _)⟩

theorem spec_DrawLeavingOrder (n : Nat) (v : Value) (w : World) (h : BytS w w.heap.size v n) :
    Calls Try.prog 52 #[v] w fun e w' => DrawnX w w' e := by
  obtain ⟨bao, bcap, hv⟩ : ∃ ao cap, v = .slice ao n cap := by obtain ⟨ao, cap, h1, _⟩ := h; exact ⟨ao, cap, h1⟩
  subst hv
  have HV := hidI h; clear h
  go_enter Try.func52, Try.ntmps52
  go_wp2_with fail
  refine (spec_DrawOrbitOf n _ w HV.out).mono ?_; rintro e w1 ⟨q, x, g, c, us, pss, rfl, h1, h2, h3, h4, h5, h6, h7, h8⟩
  have HD := hidI (show DrawnX w w1 (.returned (.tuple #[.int .i64 q, .slice (some ⟨g, 0, none⟩) pss.length c, .int .i64 x])) from ⟨q, x, g, c, us, pss, rfl, h1, h2, h3, h4, h5, h6, h7, h8⟩)
  clear h1 h2 h3 h4 h5 h6 h7 h8
  go_wp2_with fail
  go_ret3
  exact HD.out
end Go.Proofs.Ytmmggbcmailbiaa
