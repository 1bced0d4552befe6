/- The draws of the groups' laws: DrawOrbitsMany, DrawFixedSum, DrawGroupOrder. -/
import Derived.Test.YtmmggbcmailbiaaGL
namespace Go.Proofs.Ytmmggbcmailbiaa
open Go.ChangeShapes Go.WideShapes Go.ChangeAt Go.RowKit Grp

theorem spec_DrawOrbitsMany (n : Nat) (v : Value) (w : World) (h : BytS w w.heap.size v n) :
    Calls Try.prog 42 #[v] w fun e w' => DrawnP w w' e := by
  obtain ⟨bao, bcap, hv⟩ : ∃ ao cap, v = .slice ao n cap := by obtain ⟨ao, cap, h1, _⟩ := h; exact ⟨ao, cap, h1⟩
  subst hv
  have HV := hidI h; clear h
  go_enter Try.func42, Try.ntmps42
  go_wp2_with fail
  refine (spec_l20Open n _ w HV.out).mono ?_; rintro e w1 ⟨rfl, hr, b1⟩
  have HR := hidI hr; have B1 := hidI b1; clear hr b1
  go_wp2_with fail
  refine (spec_l20Moves w.heap.size 0 9 w1 HR.out (by omega) (by omega) (by omega)).mono ?_; rintro e w2 ⟨q, g, c, us, pss, rfl, h1, h2, h3, h4, h5, h6, h7⟩
  have HD := hidI (show DrawnP w w2 (.returned (.tuple #[.int .i64 q, .slice (some ⟨g, 0, none⟩) pss.length c])) from spec_drawP (n := n) (v := .slice bao n bcap) B1.out ⟨q, g, c, us, pss, rfl, h1, h2, h3, h4, h5, h6, h7⟩)
  clear h1 h2 h3 h4 h5 h6 h7
  go_wp2_with fail
  go_ret2
  exact HD.out

theorem spec_DrawFixedSum (n : Nat) (v : Value) (w : World) (h : BytS w w.heap.size v n) :
    Calls Try.prog 57 #[v] w fun e w' => DrawnP w w' e := by
  obtain ⟨bao, bcap, hv⟩ : ∃ ao cap, v = .slice ao n cap := by obtain ⟨ao, cap, h1, _⟩ := h; exact ⟨ao, cap, h1⟩
  subst hv
  have HV := hidI h; clear h
  go_enter Try.func57, Try.ntmps57
  go_wp2_with fail
  refine (spec_l20Open n _ w HV.out).mono ?_; rintro e w1 ⟨rfl, hr, b1⟩
  have HR := hidI hr; have B1 := hidI b1; clear hr b1
  go_wp2_with fail
  refine (spec_l20Moves w.heap.size 0 9 w1 HR.out (by omega) (by omega) (by omega)).mono ?_; rintro e w2 ⟨q, g, c, us, pss, rfl, h1, h2, h3, h4, h5, h6, h7⟩
  have HD := hidI (show DrawnP w w2 (.returned (.tuple #[.int .i64 q, .slice (some ⟨g, 0, none⟩) pss.length c])) from spec_drawP (n := n) (v := .slice bao n bcap) B1.out ⟨q, g, c, us, pss, rfl, h1, h2, h3, h4, h5, h6, h7⟩)
  clear h1 h2 h3 h4 h5 h6 h7
  go_wp2_with fail
  go_ret2
  exact HD.out

theorem spec_DrawGroupOrder (n : Nat) (v : Value) (w : World) (h : BytS w w.heap.size v n) :
    Calls Try.prog 60 #[v] w fun e w' => DrawnP w w' e := by
  obtain ⟨bao, bcap, hv⟩ : ∃ ao cap, v = .slice ao n cap := by obtain ⟨ao, cap, h1, _⟩ := h; exact ⟨ao, cap, h1⟩
  subst hv
  have HV := hidI h; clear h
  go_enter Try.func60, Try.ntmps60
  go_wp2_with fail
  refine (spec_l20Open n _ w HV.out).mono ?_; rintro e w1 ⟨rfl, hr, b1⟩
  have HR := hidI hr; have B1 := hidI b1; clear hr b1
  go_wp2_with fail
  refine (spec_l20Moves w.heap.size 0 9 w1 HR.out (by omega) (by omega) (by omega)).mono ?_; rintro e w2 ⟨q, g, c, us, pss, rfl, h1, h2, h3, h4, h5, h6, h7⟩
  have HD := hidI (show DrawnP w w2 (.returned (.tuple #[.int .i64 q, .slice (some ⟨g, 0, none⟩) pss.length c])) from spec_drawP (n := n) (v := .slice bao n bcap) B1.out ⟨q, g, c, us, pss, rfl, h1, h2, h3, h4, h5, h6, h7⟩)
  clear h1 h2 h3 h4 h5 h6 h7
  go_wp2_with fail
  go_ret2
  exact HD.out
end Go.Proofs.Ytmmggbcmailbiaa
