/- FnExactSameCode: for every input the law returns true, and its arguments read as before. -/
import Derived.Test.YtfofjghcofjojaaSame
import Derived.Test.YtfofjghcofjojaaOpen
namespace Go.Proofs.Ytfofjghcofjojaa
open Go.ChangeShapes Go.WideShapes Go.ChangeAt Go.RowKit

set_option maxHeartbeats 400000 in
theorem FnExactSameCode_walk (xs ys : List Int) (va vb : Value) (w : World) (hx : IntS w va xs) (hy : IntS w vb ys) :
    Calls Try.prog 10 #[va, vb] w fun e w' => e = .returned (.bool true) ∧ Below w.heap.size w w' := by
  obtain ⟨ao, cap, hv⟩ : ∃ ao cap, va = .slice ao xs.length cap := by obtain ⟨_, ao, cap, h1, _⟩ := hx; exact ⟨ao, cap, h1⟩
  obtain ⟨bo, bap, hv'⟩ : ∃ ao cap, vb = .slice ao ys.length cap := by obtain ⟨_, ao, cap, h1, _⟩ := hy; exact ⟨ao, cap, h1⟩
  subst hv; subst hv'
  by_cases hbig : 1048576 < xs.length
  · go_enter Try.func10, Try.ntmps10
    go_wp2_with fail
    go_ret
    exact ⟨rfl, Below.refl _ _⟩
  by_cases hbig2 : 1048576 < ys.length
  · go_enter Try.func10, Try.ntmps10
    go_wp2_with fail
    go_ret
    exact ⟨rfl, Below.refl _ _⟩
  · go_enter Try.func10, Try.ntmps10
    go_wp2_with fail
    refine (toIntS_any xs _ _ hx (by omega)).mono ?_; rintro e w1 ⟨rfl, h1, -, b1⟩
    go_wp2_with fail
    refine (toIntS_any ys _ _ (hy.below b1) (by omega)).mono ?_; rintro e w2 ⟨rfl, h2, -, b2⟩
    go_wp2_with fail
    refine (spec_SameCode xs ys _ _ _ (h1.below b2) h2 (by omega) (by omega)).mono ?_; rintro e w3 ⟨rfl, b3⟩
    have B3 := bthen b1 (bthen b2 b3)
    go_wp2_with fail
    refine (toIntS_any xs _ _ (hx.below B3) (by omega)).mono ?_; rintro e w4 ⟨rfl, h4, -, b4⟩
    go_wp2_with fail
    refine (toIntS_any ys _ _ (hy.below (bthen B3 b4)) (by omega)).mono ?_; rintro e w5 ⟨rfl, h5, -, b5⟩
    go_wp2_with fail
    refine (impl_SameCode xs ys _ _ _ (h4.below b5) h5).mono ?_; rintro e w6 ⟨rfl, b6⟩
    have B6 := bthen B3 (bthen b4 (bthen b5 b6))
    go_wp2_with fail
    refine (toIntS_any xs _ _ (hx.below B6) (by omega)).mono ?_; rintro e w7 ⟨rfl, h7, -, b7⟩
    go_wp2_with fail
    refine (eqIntS_any xs xs _ _ _ (h4.below (bthen b5 (bthen b6 b7))) h7).mono ?_; rintro e w8 ⟨rfl, n8, rfl⟩
    have b8 := bdraw w7 n8
    simp only [decide_true]
    go_wp2_with fail
    refine (toIntS_any ys _ _ (hy.below (bthen B6 (bthen b7 b8))) (by omega)).mono ?_; rintro e w9 ⟨rfl, h9, -, b9⟩
    go_wp2_with fail
    refine (eqIntS_any ys ys _ _ _ (h5.below (bthen b6 (bthen b7 (bthen b8 b9)))) h9).mono ?_; rintro e w10 ⟨rfl, n10, rfl⟩
    simp only [decide_true]
    go_wp2_with fail
    go_ret
    exact ⟨rfl, bthen B6 (bthen b7 (bthen b8 (bthen b9 (bdraw _ _))))⟩

set_option maxRecDepth 100000 in
theorem FnExactSameCode_lifted (os : Os) (started : os.Started) (H : Type) (enc : TypeId × Value → H) :
    ReturnsInHanded {} Try.checked os 10 .any (Rows.fnExactSameCodeSpec.pre6 enc Try.prog Try.f10 Rows.fnExactSameCodeRow.domain false) (Rows.fnExactSameCodeSpec.post enc Try.prog Try.f10 false true false false) := by
  refine returnsInHanded_of_change (C := Try.checked) own started (by kernel_rfl) Try.func10
    (ChangeSpec.witness6 (enc := enc) (C := Try.checked) false ⟨#[], #[.slice none 0 0, .slice none 0 0], []⟩ 8 (by kernel_rfl) (by kernel_rfl) (by kernel_rfl) (by kernel_rfl)) ?_
  intro W base args ds gs before hval0 hW hcnd _
  have hval : ∀ (j : Nat) t v, Try.f10.params[j]? = some t → args[j]? = some v → Value.okWide Try.prog W .any base t v := hval0
  have hW' := hW
  obtain ⟨p, q, hA0, hV, rfl, hfz, hnd⟩ := hW
  have hA : DataW.TrodAll enc Try.prog W 0 (fun _ => true) true Try.f10.params.toList args.toList ds p := hA0
  rw [Try.params10] at hA hval
  obtain ⟨rfl, rfl⟩ := trodVars_none hV
  clear hA0 hval0
  simp only [List.append_nil] at hW'
  obtain ⟨v0, v1, d0, d1, p0, p1, rfl, rfl, rfl, h0, h1⟩ := trodAll_two hA
  have l0 : ∀ x ∈ p0, x.block < W.heap.size := fun x hx => hW'.lt x (List.mem_append_left _ hx)
  have l1 : ∀ x ∈ p1, x.block < W.heap.size := fun x hx => hW'.lt x (List.mem_append_right _ hx)
  have k0 : ∀ (W' : World), Below W.heap.size W W' → DataW.Trod enc Try.prog W' 0 (fun b => decide (b < W.heap.size)) true 22 v0 d0 p0 := fun W' hn => Below.trod laidOut (by kernel_rfl) (of_decide_eq_true (by kernel_rfl)) h0 hn l0
  have k1 : ∀ (W' : World), Below W.heap.size W W' → DataW.Trod enc Try.prog W' 0 (fun b => decide (b < W.heap.size)) true 22 v1 d1 p1 := fun W' hn => Below.trod laidOut (by kernel_rfl) (of_decide_eq_true (by kernel_rfl)) h1 hn l1
  obtain ⟨xs, hx⟩ := open_IntS (hval 0 22 v0 rfl rfl) h0 l0
  obtain ⟨ys, hy⟩ := open_IntS (hval 1 22 v1 rfl rfl) h1 l1
  refine (FnExactSameCode_walk xs ys v0 v1 W hx hy).mono fun e W' ⟨he, hb⟩ => ?_
  subst he
  exact ⟨_, rfl, _, _, _, [], _, [], hW', shut_true, trodAll_mk2 (k0 _ hb) (k1 _ hb), rfl, hb.frame _, fun h => by cases h⟩

theorem FnExactSameCode_holds : Rows.FnExactSameCodeSaid :=
  OpenClaim.holds_of_wide 10 Try.f10 rfl rfl rfl rfl rfl rfl rfl ⟨rfl, rfl, rfl, rfl, rfl⟩ rfl rfl rfl rfl rfl (by kernel_rfl) Try.func10 (by kernel_rfl)
    (of_decide_eq_true (by kernel_rfl)) (by unfold Func.isWrapper; first | (rw [if_pos (by decide +kernel)]; kernel_rfl) | (rw [if_neg (by decide +kernel)]; exact ⟨rfl, rfl⟩))
    (fun os started H enc _ => FnExactSameCode_lifted os started H enc)
end Go.Proofs.Ytfofjghcofjojaa
