/- FnWordPerm: for every input the law returns true, and its argument reads as before. -/
import Derived.Test.YtmmggbcmailbiaaGDY
import Derived.Test.YtmmggbcmailbiaaGWA
import Derived.Test.YtmmggbcmailbiaaGXA
import Derived.Deep.RegionHeld3
import Derived.Outline
namespace Go.Proofs.Ytmmggbcmailbiaa
open Go.ChangeShapes Go.WideShapes Go.ChangeAt Go.RowKit Grp

set_option maxRecDepth 100000 in
set_option maxHeartbeats 4000000 in
theorem FnWordPerm_walk (n : Nat) (v : Value) (w : World) (h : BytS w w.heap.size v n) :
    Calls Try.prog 11 #[v] w fun e w' => e = .returned (.bool true) ∧ Below w.heap.size w w' := by
  obtain ⟨bao, bcap, hv⟩ : ∃ ao cap, v = .slice ao n cap := by obtain ⟨ao, cap, h1, _⟩ := h; exact ⟨ao, cap, h1⟩
  subst hv
  have HV := hidI h; clear h
  by_cases hbig : 1048576 < n
  · go_enter Try.func11, Try.ntmps11
    go_wp2_with fail
    go_ret
    exact ⟨rfl, Below.refl _ _⟩
  have hbig2 : (n : Int) ≤ 1048576 := by omega
  go_enter Try.func11, Try.ntmps11
  go_wp2_with fail
  go_fit (spec_DrawWordPerm n _ w HV.out); rintro e w1 ⟨q, g, c, us, pss, wv, ys, rfl, hq0, hq5, hpl, hls, hr, hel, hrv, hyl, b1⟩
  have HR := hidI hr; have B1 := hidI b1; have HLS := hidI hls; have HE := hidI hel.1; have HRV := hidI hrv
  have HF := hidI (wp_law q pss ys)
  obtain ⟨xs, hxs⟩ : ∃ xs, xs = wpOf q pss ys := ⟨_, rfl⟩
  have HX := hidI hxs
  have H64 := hidI (show ∀ z ∈ xs, I64 z by rw [hxs]; exact (wpOf_facts q pss ys).2)
  obtain ⟨_, uo, uc, hu, hu1, hu2, -⟩ := id hel.1
  subst hu
  unfold maxLen at hu2
  clear hr b1 hls hxs hel hrv
  go_wp2_with fail
  go_fit (impl_WordPermA q pss ys _ _ _ HR.out.reads HE.out); rintro e w2 ⟨v2, rfl, o2, b2⟩
  rw [← HX.out] at o2
  have I2 := hidI (IntS.ofOwn o2 H64.out).2
  have B2 := hidI (bthen B1.out b2); have R2 := hidI (HR.out.below b2); have E2 := hidI (HE.out.below b2)
  obtain ⟨_, ao2, c2, hv2, -⟩ := id I2.out
  subst hv2
  clear o2 b2
  go_wp2_with fail
  go_fit (spec_WordPermA q pss ys _ _ _ R2.out.reads E2.out HLS.out (by omega)); rintro e w3 ⟨v3, rfl, o3, b3⟩
  rw [← HX.out] at o3
  have I3 := hidI (IntS.ofOwn o3 H64.out).2
  have I23 := hidI (I2.out.below b3)
  have B3 := hidI (bthen B2.out b3); have R3 := hidI (R2.out.below b3); have E3 := hidI (E2.out.below b3)
  obtain ⟨_, ao3, c3, hv3, -⟩ := id I3.out
  subst hv3
  clear o3 b3
  go_wp2_with fail
  go_fit (laws_sameSame xs _ _ _ I23.out I3.out); rintro e w4 ⟨rfl, n4, hw4⟩
  have b4 : Below w3.heap.size w3 w4 := by rw [hw4]; exact bdraw _ _
  have I4 := hidI (I23.out.below b4)
  have B4 := hidI (bthen B3.out b4); have R4 := hidI (R3.out.below b4); have E4 := hidI (E3.out.below b4)
  clear hw4 b4 I3 I23 R3 R2 I2 HR HE E2 E3 B1 B2 B3
  rcases HF.out with hn | ⟨N, p, h1, h5, hp, h6, h7, h8⟩
  · have hL0 : xs.length = 0 := by rw [HX.out, hn]; rfl
    clear hn
    go_wp2_with fail
    go_fit (laws_alive _); rintro e w5 ⟨rfl, b5⟩
    have B5 := hidI (bthen B4.out b5); clear b5
    go_wp2_with fail
    go_ret
    exact ⟨rfl, B5.out⟩
  obtain rfl : xs = up p := HX.out.trans h6
  have hpn : (up p).length = N := by rw [up_len, hp.len]
  have HP := hidI hp; have H7 := hidI h7
  have I4 := hidI (show IntS w4 (.slice ao2 N c2) (up p) by have := I4.out; rw [hpn] at this; exact this)
  rw [hpn]
  obtain ⟨hf, hh⟩ : ∃ hf, hf = ys.length / 2 := ⟨_, rfl⟩
  obtain ⟨p1, p2, hp1, hp2, e1, e2, e3⟩ := h8 hf
  have HP1 := hidI hp1; have HP2 := hidI hp2; have HE1 := hidI e1; have HE2 := hidI e2; have HE3 := hidI e3
  have hN0 : ((N : Int) == 0) = false := beq_eq_false_iff_ne.2 (by omega)
  clear hp h6 h7 h8 hp1 hp2 e1 e2 e3 HF hpn HX
  have hhI : (ys.length : Int) / 2 = (hf : Int) := by omega
  have hhl : hf ≤ ys.length := by omega
  have hhz : ys.length ≠ 0 → hf < ys.length := by omega
  have HHZ := hidI hhz
  clear hh hhz
  go_wp2_with fail
  rcases HRV.out with hw | ⟨gw, cw, hw⟩
  · injection hw with hw1 hw2 hw3
    subst hw1; subst hw3
    obtain rfl : ys = [] := List.eq_nil_of_length_eq_zero hw2
    obtain rfl : hf = 0 := by simp at hhl; omega
    clear hw2 hhI hhl hu1 HHZ
    have IA := hidI (show IntS w4 (.slice none 0 0) (([] : List Int).take 0) from IntS.nil w4)
    have IB := hidI (show IntS w4 (.slice none 0 0) (([] : List Int).drop 0) from IntS.nil w4)
    have HW := hidI (show Below w4.heap.size w4 w4.drew from (Below.refl _ _).drew)
    go_region_held3 (fun W => Hid (Below w4.heap.size w4 W)) (first | exact HW | assumption) (first | (go_at_call 24; go_fit (impl_WordPermA q pss (([] : List Int).drop 0) _ _ _ (R4.out.below q5.out).reads (IB.out.below q5.out)); rintro e w6 ⟨v6, rfl, o6, b6⟩; rw [HE2.out] at o6; have q6 := hidI (bthen q5.out b6); have J6 := hidI (IntS.ofOwn o6 (up_I64 HP2.out h5)).2; have K5 := hidI (J5.out.below b6); obtain ⟨_, o6o, c6c, hv6, _⟩ := id J6.out; subst hv6; clear o6 b6) | (go_at_call 24; go_fit (impl_WordPermA q pss (([] : List Int).take 0) _ _ _ (R4.out.below HW.out).reads (IA.out.below HW.out)); rintro e w5 ⟨v5, rfl, o5, b5⟩; rw [HE1.out] at o5; have q5 := hidI (bthen HW.out b5); have J5 := hidI (IntS.ofOwn o5 (up_I64 HP1.out h5)).2; obtain ⟨_, o5o, c5c, hv5, _⟩ := id J5.out; subst hv5; clear o5 b5) | (go_at_call 22; go_fit (impl_PermThen N p1 p2 _ _ _ K5.out J6.out HP1.out HP2.out h1 h5); rintro e w7 ⟨v7, rfl, o7, b7⟩; rw [HE3.out] at o7; have q7 := hidI (bthen q6.out b7); have J7 := hidI (IntS.ofOwn o7 (up_I64 HP.out h5)).2; obtain ⟨_, o7o, c7c, hv7, _⟩ := id J7.out; subst hv7; clear o7 b7) | (go_at_call 19; go_fit (laws_sameSame (up p) _ _ _ J7.out (I4.out.below q7.out)); rintro e w8 ⟨rfl, n8, hw8⟩; have q8 := hidI (show Below w4.heap.size w4 w8 by rw [hw8]; exact bthen q7.out (bdraw _ _)); clear hw8) | (go_at_call 20; go_fit (impl_GroupHasA q pss (up p) _ _ _ (R4.out.below q8.out).reads (I4.out.below q8.out)); rintro e w9 ⟨rfl, b9⟩; rw [H7.out]; have q9 := hidI (bthen q8.out b9); clear b9) | fail)
    go_wp2_with fail
    go_ret
    exact ⟨rfl, bthen B4.out q9.out⟩
  injection hw with hw1 hw2 hw3
  subst hw1; subst hw3
  clear hw2
  by_cases hl0 : ys.length = 0
  · obtain rfl : ys = [] := List.eq_nil_of_length_eq_zero hl0
    obtain rfl : hf = 0 := by simp at hhl; omega
    clear hl0 hhI hhl HHZ
    have IA := hidI (show IntS w4 (.slice (some ⟨gw, 0, none⟩) 0 uc) (([] : List Int).take 0) from E4.out)
    have IB := hidI (show IntS w4 (.slice (some ⟨gw, 0, none⟩) 0 uc) (([] : List Int).drop 0) from E4.out)
    by_cases hc0 : 0 = uc
    · subst hc0
      have HW := hidI (show Below w4.heap.size w4 w4.drew from (Below.refl _ _).drew)
      go_region_held3 (fun W => Hid (Below w4.heap.size w4 W)) (first | exact HW | assumption) (first | (go_at_call 24; go_fit (impl_WordPermA q pss (([] : List Int).drop 0) _ _ _ (R4.out.below q5.out).reads (IB.out.below q5.out)); rintro e w6 ⟨v6, rfl, o6, b6⟩; rw [HE2.out] at o6; have q6 := hidI (bthen q5.out b6); have J6 := hidI (IntS.ofOwn o6 (up_I64 HP2.out h5)).2; have K5 := hidI (J5.out.below b6); obtain ⟨_, o6o, c6c, hv6, _⟩ := id J6.out; subst hv6; clear o6 b6) | (go_at_call 24; go_fit (impl_WordPermA q pss (([] : List Int).take 0) _ _ _ (R4.out.below HW.out).reads (IA.out.below HW.out)); rintro e w5 ⟨v5, rfl, o5, b5⟩; rw [HE1.out] at o5; have q5 := hidI (bthen HW.out b5); have J5 := hidI (IntS.ofOwn o5 (up_I64 HP1.out h5)).2; obtain ⟨_, o5o, c5c, hv5, _⟩ := id J5.out; subst hv5; clear o5 b5) | (go_at_call 22; go_fit (impl_PermThen N p1 p2 _ _ _ K5.out J6.out HP1.out HP2.out h1 h5); rintro e w7 ⟨v7, rfl, o7, b7⟩; rw [HE3.out] at o7; have q7 := hidI (bthen q6.out b7); have J7 := hidI (IntS.ofOwn o7 (up_I64 HP.out h5)).2; obtain ⟨_, o7o, c7c, hv7, _⟩ := id J7.out; subst hv7; clear o7 b7) | (go_at_call 19; go_fit (laws_sameSame (up p) _ _ _ J7.out (I4.out.below q7.out)); rintro e w8 ⟨rfl, n8, hw8⟩; have q8 := hidI (show Below w4.heap.size w4 w8 by rw [hw8]; exact bthen q7.out (bdraw _ _)); clear hw8) | (go_at_call 20; go_fit (impl_GroupHasA q pss (up p) _ _ _ (R4.out.below q8.out).reads (I4.out.below q8.out)); rintro e w9 ⟨rfl, b9⟩; rw [H7.out]; have q9 := hidI (bthen q8.out b9); clear b9) | fail)
      go_wp2_with fail
      go_ret
      exact ⟨rfl, bthen B4.out q9.out⟩
    · have hc0' : ¬ uc = 0 := fun e => hc0 e.symm
      have HW := hidI (show Below w4.heap.size w4 w4.drew from (Below.refl _ _).drew)
      go_region_held3 (fun W => Hid (Below w4.heap.size w4 W)) (first | exact HW | assumption) (first | (go_at_call 24; go_fit (impl_WordPermA q pss (([] : List Int).drop 0) _ _ _ (R4.out.below q5.out).reads (IB.out.below q5.out)); rintro e w6 ⟨v6, rfl, o6, b6⟩; rw [HE2.out] at o6; have q6 := hidI (bthen q5.out b6); have J6 := hidI (IntS.ofOwn o6 (up_I64 HP2.out h5)).2; have K5 := hidI (J5.out.below b6); obtain ⟨_, o6o, c6c, hv6, _⟩ := id J6.out; subst hv6; clear o6 b6) | (go_at_call 24; go_fit (impl_WordPermA q pss (([] : List Int).take 0) _ _ _ (R4.out.below HW.out).reads (IA.out.below HW.out)); rintro e w5 ⟨v5, rfl, o5, b5⟩; rw [HE1.out] at o5; have q5 := hidI (bthen HW.out b5); have J5 := hidI (IntS.ofOwn o5 (up_I64 HP1.out h5)).2; obtain ⟨_, o5o, c5c, hv5, _⟩ := id J5.out; subst hv5; clear o5 b5) | (go_at_call 22; go_fit (impl_PermThen N p1 p2 _ _ _ K5.out J6.out HP1.out HP2.out h1 h5); rintro e w7 ⟨v7, rfl, o7, b7⟩; rw [HE3.out] at o7; have q7 := hidI (bthen q6.out b7); have J7 := hidI (IntS.ofOwn o7 (up_I64 HP.out h5)).2; obtain ⟨_, o7o, c7c, hv7, _⟩ := id J7.out; subst hv7; clear o7 b7) | (go_at_call 19; go_fit (laws_sameSame (up p) _ _ _ J7.out (I4.out.below q7.out)); rintro e w8 ⟨rfl, n8, hw8⟩; have q8 := hidI (show Below w4.heap.size w4 w8 by rw [hw8]; exact bthen q7.out (bdraw _ _)); clear hw8) | (go_at_call 20; go_fit (impl_GroupHasA q pss (up p) _ _ _ (R4.out.below q8.out).reads (I4.out.below q8.out)); rintro e w9 ⟨rfl, b9⟩; rw [H7.out]; have q9 := hidI (bthen q8.out b9); clear b9) | fail)
      go_wp2_with fail
      go_ret
      exact ⟨rfl, bthen B4.out q9.out⟩
  have hhu : hf < ys.length := HHZ.out hl0
  have hhc : ¬ hf = uc := by omega
  have hhlI : (hf : Int) ≤ (ys.length : Int) := by omega
  have hhcI : (hf : Int) ≤ (uc : Int) := by omega
  have hlcI : (ys.length : Int) ≤ (uc : Int) := by omega
  have IA := hidI (E4.out.take hhl)
  have IB := hidI (show IntS w4 (.slice (some ⟨gw, hf, none⟩) (ys.length - hf) (uc - hf)) (ys.drop hf) by have := E4.out.drop hhl; rw [Nat.zero_add] at this; exact this)
  clear hl0 HHZ hhI
  have HW := hidI (show Below w4.heap.size w4 w4.drew from (Below.refl _ _).drew)
  go_region_held3 (fun W => Hid (Below w4.heap.size w4 W)) (first | exact HW | assumption) (first | (go_at_call 24; go_fit (impl_WordPermA q pss (ys.drop hf) _ _ _ (R4.out.below q5.out).reads (IB.out.below q5.out)); rintro e w6 ⟨v6, rfl, o6, b6⟩; rw [HE2.out] at o6; have q6 := hidI (bthen q5.out b6); have J6 := hidI (IntS.ofOwn o6 (up_I64 HP2.out h5)).2; have K5 := hidI (J5.out.below b6); obtain ⟨_, o6o, c6c, hv6, _⟩ := id J6.out; subst hv6; clear o6 b6) | (go_at_call 24; go_fit (impl_WordPermA q pss (ys.take hf) _ _ _ (R4.out.below HW.out).reads (IA.out.below HW.out)); rintro e w5 ⟨v5, rfl, o5, b5⟩; rw [HE1.out] at o5; have q5 := hidI (bthen HW.out b5); have J5 := hidI (IntS.ofOwn o5 (up_I64 HP1.out h5)).2; obtain ⟨_, o5o, c5c, hv5, _⟩ := id J5.out; subst hv5; clear o5 b5) | (go_at_call 22; go_fit (impl_PermThen N p1 p2 _ _ _ K5.out J6.out HP1.out HP2.out h1 h5); rintro e w7 ⟨v7, rfl, o7, b7⟩; rw [HE3.out] at o7; have q7 := hidI (bthen q6.out b7); have J7 := hidI (IntS.ofOwn o7 (up_I64 HP.out h5)).2; obtain ⟨_, o7o, c7c, hv7, _⟩ := id J7.out; subst hv7; clear o7 b7) | (go_at_call 19; go_fit (laws_sameSame (up p) _ _ _ J7.out (I4.out.below q7.out)); rintro e w8 ⟨rfl, n8, hw8⟩; have q8 := hidI (show Below w4.heap.size w4 w8 by rw [hw8]; exact bthen q7.out (bdraw _ _)); clear hw8) | (go_at_call 20; go_fit (impl_GroupHasA q pss (up p) _ _ _ (R4.out.below q8.out).reads (I4.out.below q8.out)); rintro e w9 ⟨rfl, b9⟩; rw [H7.out]; have q9 := hidI (bthen q8.out b9); clear b9) | fail)
  go_wp2_with fail
  go_ret
  exact ⟨rfl, bthen B4.out q9.out⟩

set_option maxRecDepth 100000 in
theorem FnWordPerm_lifted (os : Os) (started : os.Started) (H : Type) (enc : TypeId × Value → H) :
    ReturnsInHanded {} Try.checked os 11 .any (Rows.fnWordPermSpec.pre6 enc Try.prog Try.f11 Rows.fnWordPermRow.domain false) (Rows.fnWordPermSpec.post enc Try.prog Try.f11 false true false false) := by
  refine returnsInHanded_of_change (C := Try.checked) own started (by kernel_rfl) Try.func11
    (ChangeSpec.witness6 (enc := enc) (C := Try.checked) false ⟨#[], #[.slice none 0 0], []⟩ 8 (by kernel_rfl) (by kernel_rfl) (by kernel_rfl) (by kernel_rfl)) ?_
  intro W base args ds gs before hval0 hW hcnd _
  have hval : ∀ (j : Nat) t v, Try.f11.params[j]? = some t → args[j]? = some v → Value.okWide Try.prog W .any base t v := hval0
  have hW' := hW
  obtain ⟨p, q, hA0, hV, rfl, hfz, hnd⟩ := hW
  have hA : DataW.TrodAll enc Try.prog W 0 (fun _ => true) true Try.f11.params.toList args.toList ds p := hA0
  rw [Try.params11] at hA hval
  obtain ⟨rfl, rfl⟩ := trodVars_none hV
  clear hA0 hval0
  simp only [List.append_nil] at hW'
  obtain ⟨v0, d0, rfl, rfl, h0⟩ := trodAll_one hA
  have l0 : ∀ x ∈ p, x.block < W.heap.size := fun x hx => by simpa using hW'.lt x hx
  have k0 : ∀ (W' : World), Below W.heap.size W W' → DataW.Trod enc Try.prog W' 0 (fun b => decide (b < W.heap.size)) true 22 v0 d0 p := fun W' hn => Below.trod laidOut (by kernel_rfl) (of_decide_eq_true (by kernel_rfl)) h0 hn l0
  obtain ⟨n, hn⟩ := open_BytS (hval 0 22 v0 rfl rfl) h0 l0
  refine (FnWordPerm_walk n v0 W hn).mono fun e W' ⟨he, hb⟩ => ?_
  subst he
  exact ⟨_, rfl, _, _, _, [], _, [], hW', shut_true, trodAll_mk1 (k0 _ hb), rfl, hb.frame _, fun h => by cases h⟩

theorem FnWordPerm_holds : Rows.FnWordPermSaid :=
  OpenClaim.holds_of_wide 11 Try.f11 rfl rfl rfl rfl rfl rfl rfl ⟨rfl, rfl, rfl, rfl, rfl⟩ rfl rfl rfl rfl rfl (by kernel_rfl) Try.func11 (by kernel_rfl)
    (of_decide_eq_true (by kernel_rfl)) (by unfold Func.isWrapper; first | (rw [if_pos (by decide +kernel)]; kernel_rfl) | (rw [if_neg (by decide +kernel)]; exact ⟨rfl, rfl⟩))
    (fun os started H enc _ => FnWordPerm_lifted os started H enc)
end Go.Proofs.Ytmmggbcmailbiaa
