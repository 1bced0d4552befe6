/- FnExactGroupHas: for every input the law returns true, and its arguments read as before. -/
import Derived.Test.YtmmggbcmailbiaaGXA
import Derived.Test.YtmmggbcmailbiaaGE
namespace Go.Proofs.Ytmmggbcmailbiaa
open Go.ChangeShapes Go.WideShapes Go.ChangeAt Go.RowKit

set_option maxRecDepth 100000 in
set_option maxHeartbeats 4000000 in
theorem FnExactGroupHas_walk (n : Int) (pss : List (List Int)) (zs : List Int) (v u : Value) (w : World) (h : IntSS w v pss) (hu : IntS w u zs) :
    Calls Try.prog 8 #[.int .i64 n, v, u] w fun e w' => e = .returned (.bool true) ∧ Below w.heap.size w w' := by
  obtain ⟨ao, cap, hv1, hcap, hmax, _⟩ := id h
  obtain ⟨_, uo, uc, hu1, hul, hum, _⟩ := id hu
  subst hv1; subst hu1
  have HM := hidI h; have HU := hidI hu
  clear h hu
  by_cases hbig : 1048576 < zs.length
  · go_enter Try.func8, Try.ntmps8
    go_wp2_with fail
    go_ret
    exact ⟨rfl, Below.refl _ _⟩
  go_enter Try.func8, Try.ntmps8
  go_wp2_with fail
  refine (szIntSS_any pss _ _ HM.out).mono ?_; rintro e w' ⟨⟨q, rfl, hq⟩, rfl⟩
  by_cases hneg : q < 0
  · clear hq
    go_wp2_with fail
    go_ret
    exact ⟨rfl, Below.refl _ _⟩
  have hq2 := (hq.resolve_left hneg).2
  have HLS := hidI (show ∀ p ∈ pss, p.length ≤ 4000000 from fun p hp => by have := tot_mem hp; omega)
  have hpl : pss.length ≤ 4000000 := by omega
  have hzl : zs.length ≤ 4000000 := by omega
  clear hq hq2
  obtain ⟨o, ho⟩ : ∃ o, o = hasOf n pss zs := ⟨_, rfl⟩
  have HO := hidI ho; clear ho
  have hoo : (o != o) = false := by simp
  go_wp2_with fail
  refine (toIntSS_any pss _ _ HM.out hpl HLS.out).mono ?_; rintro e w1 ⟨rfl, m1, b1, -⟩
  have M1 := hidI m1; have B1 := hidI b1; clear m1 b1
  go_wp2_with fail
  refine (toIntS_any zs _ _ (HU.out.below B1.out) (by omega)).mono ?_; rintro e wu ⟨rfl, uu, -, bu⟩
  have U2 := hidI uu; have M2 := hidI (M1.out.below bu); have Bu := hidI (bthen B1.out bu); clear uu bu
  go_wp2_with fail
  refine (spec_GroupHasA n pss zs _ _ _ M2.out U2.out HLS.out hzl).mono ?_; rintro e w2 ⟨rfl, b2⟩
  rw [← HO.out]
  have B2 := hidI (bthen Bu.out b2); clear b2
  go_wp2_with fail
  refine (toIntSS_any pss _ _ (HM.out.below B2.out) hpl HLS.out).mono ?_; rintro e w3 ⟨rfl, m3, b3, -⟩
  have M3 := hidI m3; have B3 := hidI (bthen B2.out b3); clear m3 b3
  go_wp2_with fail
  refine (toIntS_any zs _ _ (HU.out.below B3.out) (by omega)).mono ?_; rintro e wv ⟨rfl, uv, -, bv⟩
  have V3 := hidI uv; have M4 := hidI (M3.out.below bv); have Bv := hidI (bthen B3.out bv); clear uv bv
  go_wp2_with fail
  refine (impl_GroupHasA n pss zs _ _ _ M4.out V3.out).mono ?_; rintro e w4 ⟨rfl, b4⟩
  rw [← HO.out]
  have M5 := hidI (M4.out.below b4); have V5 := hidI (V3.out.below b4); have B4 := hidI (bthen Bv.out b4); clear b4
  go_wp2_with fail
  refine (toIntSS_any pss _ _ (HM.out.below B4.out) hpl HLS.out).mono ?_; rintro e w5 ⟨rfl, m5, b5, -⟩
  have N6 := hidI m5; have M6 := hidI (M5.out.below b5); have V6 := hidI (V5.out.below b5); have B5 := hidI (bthen B4.out b5)
  clear m5 b5
  go_wp2_with fail
  refine (eqIntSS_same pss _ _ _ M6.out N6.out).mono ?_; rintro e w6 ⟨rfl, n6, hw6⟩
  have hb6 : Below w5.heap.size w5 w6 := by rw [hw6]; exact bdraw _ _
  have V7 := hidI (V6.out.below hb6); have B6 := hidI (bthen B5.out hb6)
  clear hw6 hb6
  go_wp2_with fail
  refine (toIntS_any zs _ _ (HU.out.below B6.out) (by omega)).mono ?_; rintro e w7 ⟨rfl, u7, -, b7⟩
  have U8 := hidI u7; have V8 := hidI (V7.out.below b7); have B7 := hidI (bthen B6.out b7); clear u7 b7
  go_wp2_with fail
  refine (eqIntS_same zs _ _ _ V8.out U8.out).mono ?_; rintro e w8 ⟨rfl, n8, hw8⟩
  have B8 := hidI (show Below w.heap.size w w8 by rw [hw8]; exact bthen B7.out (bdraw _ _))
  clear hw8
  go_wp2_with fail
  go_ret
  exact ⟨rfl, B8.out⟩

set_option maxRecDepth 100000 in
theorem FnExactGroupHas_lifted (os : Os) (started : os.Started) (H : Type) (enc : TypeId × Value → H) :
    ReturnsInHanded {} Try.checked os 8 .any (Rows.fnExactGroupHasSpec.pre6 enc Try.prog Try.f8 Rows.fnExactGroupHasRow.domain false) (Rows.fnExactGroupHasSpec.post enc Try.prog Try.f8 false true false false) := by
  refine returnsInHanded_of_change (C := Try.checked) own started (by kernel_rfl) Try.func8
    (ChangeSpec.witness6 (enc := enc) (C := Try.checked) false ⟨#[], #[.int .i64 0, .slice none 0 0, .slice none 0 0], []⟩ 8 (by kernel_rfl) (by kernel_rfl) (by kernel_rfl) (by kernel_rfl)) ?_
  intro W base args ds gs before hval0 hW hcnd _
  have hval : ∀ (j : Nat) t v, Try.f8.params[j]? = some t → args[j]? = some v → Value.okWide Try.prog W .any base t v := hval0
  have hW' := hW
  obtain ⟨p, q, hA0, hV, rfl, hfz, hnd⟩ := hW
  have hA : DataW.TrodAll enc Try.prog W 0 (fun _ => true) true Try.f8.params.toList args.toList ds p := hA0
  rw [Try.params8] at hA hval
  obtain ⟨rfl, rfl⟩ := trodVars_none hV
  clear hA0 hval0
  simp only [List.append_nil] at hW'
  obtain ⟨v0, v1, v2, d0, d1, d2, p0, p1, p2, rfl, rfl, rfl, h0, h1, h2⟩ := trodAll_three hA
  have l0 : ∀ x ∈ p0, x.block < W.heap.size := fun x hx => hW'.lt x (by simp [hx])
  have l1 : ∀ x ∈ p1, x.block < W.heap.size := fun x hx => hW'.lt x (by simp [hx])
  have l2 : ∀ x ∈ p2, x.block < W.heap.size := fun x hx => hW'.lt x (by simp [hx])
  have k0 : ∀ (W' : World), Below W.heap.size W W' → DataW.Trod enc Try.prog W' 0 (fun b => decide (b < W.heap.size)) true 3 v0 d0 p0 := fun W' hn => Below.trod laidOut (by kernel_rfl) (of_decide_eq_true (by kernel_rfl)) h0 hn l0
  have k1 : ∀ (W' : World), Below W.heap.size W W' → DataW.Trod enc Try.prog W' 0 (fun b => decide (b < W.heap.size)) true 23 v1 d1 p1 := fun W' hn => Below.trod laidOut (by kernel_rfl) (of_decide_eq_true (by kernel_rfl)) h1 hn l1
  have k2 : ∀ (W' : World), Below W.heap.size W W' → DataW.Trod enc Try.prog W' 0 (fun b => decide (b < W.heap.size)) true 24 v2 d2 p2 := fun W' hn => Below.trod laidOut (by kernel_rfl) (of_decide_eq_true (by kernel_rfl)) h2 hn l2
  obtain ⟨n, rfl, _⟩ := open_I64 (hval 0 3 v0 rfl rfl) h0
  obtain ⟨pss, hp⟩ := open_IntSS (hval 1 23 v1 rfl rfl) h1 l1
  obtain ⟨zs, hz⟩ := open_IntS (hval 2 24 v2 rfl rfl) h2 l2
  refine (FnExactGroupHas_walk n pss zs v1 v2 W hp hz).mono fun e W' ⟨he, hb⟩ => ?_
  subst he
  exact ⟨_, rfl, _, _, _, [], _, [], hW', shut_true, trodAll_mk3 (k0 _ hb) (k1 _ hb) (k2 _ hb), rfl, hb.frame _, fun h => by cases h⟩

theorem FnExactGroupHas_holds : Rows.FnExactGroupHasSaid :=
  OpenClaim.holds_of_wide 8 Try.f8 rfl rfl rfl rfl rfl rfl rfl ⟨rfl, rfl, rfl, rfl, rfl⟩ rfl rfl rfl rfl rfl (by kernel_rfl) Try.func8 (by kernel_rfl)
    (of_decide_eq_true (by kernel_rfl)) (by unfold Func.isWrapper; first | (rw [if_pos (by decide +kernel)]; kernel_rfl) | (rw [if_neg (by decide +kernel)]; exact ⟨rfl, rfl⟩))
    (fun os started H enc _ => FnExactGroupHas_lifted os started H enc)
end Go.Proofs.Ytmmggbcmailbiaa
