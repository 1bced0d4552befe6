/- FnFixedSum: for every input the law returns true, and its argument reads as before. -/
import Derived.Test.YtmmggbcmailbiaaGDW
import Derived.Test.YtmmggbcmailbiaaGFS
import Derived.Test.YtmmggbcmailbiaaGXA
import Derived.Deep.RegionHeld3
import Derived.Outline
namespace Go.Proofs.Ytmmggbcmailbiaa
open Go.ChangeShapes Go.WideShapes Go.ChangeAt Go.RowKit Grp

theorem fix_law (places : Int) (pss : List (List Int)) : (fixOf places pss = -1 ∧ mvalid places pss = false) ∨ (∃ a b : Nat, a ≤ 5 ∧ b ≤ 120 ∧ fixOf places pss = (a * b : Nat) ∧ manyOf places pss = (a : Nat) ∧ orderOf places pss = (b : Nat)) := by
  cases hm : mvalid places pss
  · exact .inl ⟨fixOf_no hm, rfl⟩
  · obtain ⟨n, qs, rfl, h1, h5, rfl, h3, hok⟩ := (mvalid_iff _ _).1 hm
    refine .inr ⟨manyTo n qs n, size n qs, ?_, size_le h1 h5 hok, ?_, manyOf_valid h1 h5 h3 hok, orderOf_valid h1 h5 h3 hok⟩
    · unfold manyTo
      have := List.length_filter_le (least n qs) (List.range n)
      rw [List.length_range] at this; omega
    · rw [fixOf_valid h1 h5 h3 hok, burnside h5 hok, size_eq h5 hok]; rfl

set_option maxRecDepth 100000 in
set_option maxHeartbeats 4000000 in
theorem FnFixedSum_walk (n : Nat) (v : Value) (w : World) (h : BytS w w.heap.size v n) :
    Calls Try.prog 14 #[v] w fun e w' => e = .returned (.bool true) ∧ Below w.heap.size w w' := by
  obtain ⟨bao, bcap, hv⟩ : ∃ ao cap, v = .slice ao n cap := by obtain ⟨ao, cap, h1, _⟩ := h; exact ⟨ao, cap, h1⟩
  subst hv
  have HV := hidI h; clear h
  by_cases hbig : 1048576 < n
  · go_enter Try.func14, Try.ntmps14
    go_wp2_with fail
    go_ret
    exact ⟨rfl, Below.refl _ _⟩
  have hbig2 : (n : Int) ≤ 1048576 := by omega
  go_enter Try.func14, Try.ntmps14
  go_wp2_with fail
  refine (spec_DrawFixedSum n _ w HV.out).mono ?_; rintro e w1 ⟨q, g, c, us, pss, rfl, hq0, hq5, hpl, hls, hr, b1⟩
  have HR := hidI hr; have B1 := hidI b1; have HLS := hidI hls
  have HF := hidI (fix_law q pss)
  obtain ⟨o, ho⟩ : ∃ o, o = fixOf q pss := ⟨_, rfl⟩
  have HO := hidI ho
  clear hr b1 hls ho
  go_wp2_with fail
  refine (impl_FixedSumA q pss _ _ HR.out.reads).mono ?_; rintro e w2 ⟨rfl, b2⟩
  rw [← HO.out]
  have B2 := hidI (bthen B1.out b2); have R2 := hidI (HR.out.below b2); clear b2
  go_wp2_with fail
  refine (spec_FixedSumA q pss _ _ R2.out.reads HLS.out).mono ?_; rintro e w3 ⟨rfl, b3⟩
  rw [← HO.out]
  have B3 := hidI (bthen B2.out b3); have R3 := hidI (R2.out.below b3); clear b3
  have hoo : (o != o) = false := by simp
  rcases HF.out with ⟨h1, -⟩ | ⟨a, b, ha, hb, h1, h2, h3⟩
  · have hon : o = -1 := HO.out.trans h1
    subst hon
    clear h1
    go_wp2_with fail
    refine (laws_alive _).mono ?_; rintro e w4 ⟨rfl, b4⟩
    have B4 := hidI (bthen B3.out b4); clear b4
    go_wp2_with fail
    go_ret
    exact ⟨rfl, B4.out⟩
  · have hon : o = ((a * b : Nat) : Int) := HO.out.trans h1
    have hab : a * b ≤ 5 * 120 := Nat.mul_le_mul ha hb
    have H2 := hidI h2; have H3 := hidI h3
    have hge : ¬ o < 0 := by omega
    have hom : o = (a : Int) * (b : Int) := by rw [hon, Int.natCast_mul]
    have HOM := hidI hom
    have hol : o ≤ 600 := by omega
    have hmul : (a : Int) * (b : Int) ≤ 600 := by omega
    have hmul0 : 0 ≤ (a : Int) * (b : Int) := by omega
    clear h1 h2 h3 hon hab
    go_wp2_with fail
    refine (impl_OrbitsManyA q pss _ _ R3.out.reads).mono ?_; rintro e w4 ⟨rfl, b4⟩
    rw [H2.out]
    have B4 := hidI (bthen B3.out b4); have R4 := hidI (R3.out.below b4); clear b4
    go_wp2_with fail
    refine (impl_GroupOrderA q pss _ _ R4.out.reads).mono ?_; rintro e w5 ⟨rfl, b5⟩
    rw [H3.out]
    have B5 := hidI (bthen B4.out b5); clear b5
    go_wp2_with fail
    go_ret
    exact ⟨by simp [HOM.out], B5.out⟩

set_option maxRecDepth 100000 in
theorem FnFixedSum_lifted (os : Os) (started : os.Started) (H : Type) (enc : TypeId × Value → H) :
    ReturnsInHanded {} Try.checked os 14 .any (Rows.fnFixedSumSpec.pre6 enc Try.prog Try.f14 Rows.fnFixedSumRow.domain false) (Rows.fnFixedSumSpec.post enc Try.prog Try.f14 false true false false) := by
  refine returnsInHanded_of_change (C := Try.checked) own started (by kernel_rfl) Try.func14
    (ChangeSpec.witness6 (enc := enc) (C := Try.checked) false ⟨#[], #[.slice none 0 0], []⟩ 8 (by kernel_rfl) (by kernel_rfl) (by kernel_rfl) (by kernel_rfl)) ?_
  intro W base args ds gs before hval0 hW hcnd _
  have hval : ∀ (j : Nat) t v, Try.f14.params[j]? = some t → args[j]? = some v → Value.okWide Try.prog W .any base t v := hval0
  have hW' := hW
  obtain ⟨p, q, hA0, hV, rfl, hfz, hnd⟩ := hW
  have hA : DataW.TrodAll enc Try.prog W 0 (fun _ => true) true Try.f14.params.toList args.toList ds p := hA0
  rw [Try.params14] at hA hval
  obtain ⟨rfl, rfl⟩ := trodVars_none hV
  clear hA0 hval0
  simp only [List.append_nil] at hW'
  obtain ⟨v0, d0, rfl, rfl, h0⟩ := trodAll_one hA
  have l0 : ∀ x ∈ p, x.block < W.heap.size := fun x hx => by simpa using hW'.lt x hx
  have k0 : ∀ (W' : World), Below W.heap.size W W' → DataW.Trod enc Try.prog W' 0 (fun b => decide (b < W.heap.size)) true 22 v0 d0 p := fun W' hn => Below.trod laidOut (by kernel_rfl) (of_decide_eq_true (by kernel_rfl)) h0 hn l0
  obtain ⟨n, hn⟩ := open_BytS (hval 0 22 v0 rfl rfl) h0 l0
  refine (FnFixedSum_walk n v0 W hn).mono fun e W' ⟨he, hb⟩ => ?_
  subst he
  exact ⟨_, rfl, _, _, _, [], _, [], hW', shut_true, trodAll_mk1 (k0 _ hb), rfl, hb.frame _, fun h => by cases h⟩

theorem FnFixedSum_holds : Rows.FnFixedSumSaid :=
  OpenClaim.holds_of_wide 14 Try.f14 rfl rfl rfl rfl rfl rfl rfl ⟨rfl, rfl, rfl, rfl, rfl⟩ rfl rfl rfl rfl rfl (by kernel_rfl) Try.func14 (by kernel_rfl)
    (of_decide_eq_true (by kernel_rfl)) (by unfold Func.isWrapper; first | (rw [if_pos (by decide +kernel)]; kernel_rfl) | (rw [if_neg (by decide +kernel)]; exact ⟨rfl, rfl⟩))
    (fun os started H enc _ => FnFixedSum_lifted os started H enc)
end Go.Proofs.Ytmmggbcmailbiaa
