/- FnExactLeavingOrder: for every input the law returns true, and its arguments read as before. -/
import Derived.Test.YtmmggbcmailbiaaGXA
import Derived.Test.YtmmggbcmailbiaaGE
namespace Go.Proofs.Ytmmggbcmailbiaa
open Go.ChangeShapes Go.WideShapes Go.ChangeAt Go.RowKit

set_option maxRecDepth 100000 in
set_option maxHeartbeats 4000000 in
theorem FnExactLeavingOrder_walk (n x : Int) (pss : List (List Int)) (v : Value) (w : World) (h : IntSS w v pss) :
    Calls Try.prog 6 #[.int .i64 n, v, .int .i64 x] w fun e w' => e = .returned (.bool true) ∧ Below w.heap.size w w' := by
  obtain ⟨ao, cap, hv1, hcap, hmax, _⟩ := id h
  subst hv1
  have HM := hidI h
  clear h
  go_enter Try.func6, Try.ntmps6
  go_wp2_with fail
  refine (szIntSS_any pss _ _ HM.out).mono ?_; rintro e w' ⟨⟨q, rfl, hq⟩, rfl⟩
  by_cases hneg : q < 0
  · clear hq
    go_wp2_with fail
    go_ret
    exact ⟨rfl, Below.refl _ _⟩
  have hq2 := (hq.resolve_left hneg).2
  have HLS := hidI (show ∀ p ∈ pss, p.length ≤ 4000000 from fun p hp => by have := tot_mem hp; omega)
  have hpl : pss.length ≤ 4000000 := by omega
  clear hq hq2
  obtain ⟨o, ho⟩ : ∃ o, o = leavOf n pss x := ⟨_, rfl⟩
  have HO := hidI ho; clear ho
  have hoo : (o != o) = false := by simp
  go_wp2_with fail
  refine (toIntSS_any pss _ _ HM.out hpl HLS.out).mono ?_; rintro e w1 ⟨rfl, m1, b1, -⟩
  have M1 := hidI m1; have B1 := hidI b1; clear m1 b1
  go_wp2_with fail
  refine (spec_LeavingOrderA n x pss _ _ M1.out HLS.out).mono ?_; rintro e w2 ⟨rfl, b2⟩
  rw [← HO.out]
  have B2 := hidI (bthen B1.out b2); clear b2
  go_wp2_with fail
  refine (toIntSS_any pss _ _ (HM.out.below B2.out) hpl HLS.out).mono ?_; rintro e w3 ⟨rfl, m3, b3, -⟩
  have M3 := hidI m3; have B3 := hidI (bthen B2.out b3); clear m3 b3
  go_wp2_with fail
  refine (impl_LeavingOrderA n x pss _ _ M3.out).mono ?_; rintro e w4 ⟨rfl, b4⟩
  rw [← HO.out]
  have M4 := hidI (M3.out.below b4); have B4 := hidI (bthen B3.out b4); clear b4
  go_wp2_with fail
  refine (toIntSS_any pss _ _ (HM.out.below B4.out) hpl HLS.out).mono ?_; rintro e w5 ⟨rfl, m5, b5, -⟩
  have N5 := hidI m5; have M5 := hidI (M4.out.below b5); have B5 := hidI (bthen B4.out b5)
  clear m5 b5
  go_wp2_with fail
  refine (eqIntSS_same pss _ _ _ M5.out N5.out).mono ?_; rintro e w6 ⟨rfl, n6, hw6⟩
  have B6 := hidI (show Below w.heap.size w w6 by rw [hw6]; exact bthen B5.out (bdraw _ _))
  clear hw6
  go_wp2_with fail
  go_ret
  exact ⟨rfl, B6.out⟩

set_option maxRecDepth 100000 in
theorem FnExactLeavingOrder_lifted (os : Os) (started : os.Started) (H : Type) (enc : TypeId × Value → H) :
    ReturnsInHanded {} Try.checked os 6 .any (Rows.fnExactLeavingOrderSpec.pre6 enc Try.prog Try.f6 Rows.fnExactLeavingOrderRow.domain false) (Rows.fnExactLeavingOrderSpec.post enc Try.prog Try.f6 false true false false) := by
  refine returnsInHanded_of_change (C := Try.checked) own started (by kernel_rfl) Try.func6
    (ChangeSpec.witness6 (enc := enc) (C := Try.checked) false ⟨#[], #[.int .i64 0, .slice none 0 0, .int .i64 0], []⟩ 8 (by kernel_rfl) (by kernel_rfl) (by kernel_rfl) (by kernel_rfl)) ?_
  intro W base args ds gs before hval0 hW hcnd _
  have hval : ∀ (j : Nat) t v, Try.f6.params[j]? = some t → args[j]? = some v → Value.okWide Try.prog W .any base t v := hval0
  have hW' := hW
  obtain ⟨p, q, hA0, hV, rfl, hfz, hnd⟩ := hW
  have hA : DataW.TrodAll enc Try.prog W 0 (fun _ => true) true Try.f6.params.toList args.toList ds p := hA0
  rw [Try.params6] at hA hval
  obtain ⟨rfl, rfl⟩ := trodVars_none hV
  clear hA0 hval0
  simp only [List.append_nil] at hW'
  obtain ⟨v0, v1, v2, d0, d1, d2, p0, p1, p2, rfl, rfl, rfl, h0, h1, h2⟩ := trodAll_three hA
  have l0 : ∀ x ∈ p0, x.block < W.heap.size := fun x hx => hW'.lt x (by simp [hx])
  have l1 : ∀ x ∈ p1, x.block < W.heap.size := fun x hx => hW'.lt x (by simp [hx])
  have l2 : ∀ x ∈ p2, x.block < W.heap.size := fun x hx => hW'.lt x (by simp [hx])
  have k0 : ∀ (W' : World), Below W.heap.size W W' → DataW.Trod enc Try.prog W' 0 (fun b => decide (b < W.heap.size)) true 3 v0 d0 p0 := fun W' hn => Below.trod laidOut (by kernel_rfl) (of_decide_eq_true (by kernel_rfl)) h0 hn l0
  have k1 : ∀ (W' : World), Below W.heap.size W W' → DataW.Trod enc Try.prog W' 0 (fun b => decide (b < W.heap.size)) true 23 v1 d1 p1 := fun W' hn => Below.trod laidOut (by kernel_rfl) (of_decide_eq_true (by kernel_rfl)) h1 hn l1
  have k2 : ∀ (W' : World), Below W.heap.size W W' → DataW.Trod enc Try.prog W' 0 (fun b => decide (b < W.heap.size)) true 3 v2 d2 p2 := fun W' hn => Below.trod laidOut (by kernel_rfl) (of_decide_eq_true (by kernel_rfl)) h2 hn l2
  obtain ⟨n, rfl, _⟩ := open_I64 (hval 0 3 v0 rfl rfl) h0
  obtain ⟨pss, hp⟩ := open_IntSS (hval 1 23 v1 rfl rfl) h1 l1
  obtain ⟨x, rfl, _⟩ := open_I64 (hval 2 3 v2 rfl rfl) h2
  refine (FnExactLeavingOrder_walk n x pss v1 W hp).mono fun e W' ⟨he, hb⟩ => ?_
  subst he
  exact ⟨_, rfl, _, _, _, [], _, [], hW', shut_true, trodAll_mk3 (k0 _ hb) (k1 _ hb) (k2 _ hb), rfl, hb.frame _, fun h => by cases h⟩

theorem FnExactLeavingOrder_holds : Rows.FnExactLeavingOrderSaid :=
  OpenClaim.holds_of_wide 6 Try.f6 rfl rfl rfl rfl rfl rfl rfl ⟨rfl, rfl, rfl, rfl, rfl⟩ rfl rfl rfl rfl rfl (by kernel_rfl) Try.func6 (by kernel_rfl)
    (of_decide_eq_true (by kernel_rfl)) (by unfold Func.isWrapper; first | (rw [if_pos (by decide +kernel)]; kernel_rfl) | (rw [if_neg (by decide +kernel)]; exact ⟨rfl, rfl⟩))
    (fun os started H enc _ => FnExactLeavingOrder_lifted os started H enc)
end Go.Proofs.Ytmmggbcmailbiaa
