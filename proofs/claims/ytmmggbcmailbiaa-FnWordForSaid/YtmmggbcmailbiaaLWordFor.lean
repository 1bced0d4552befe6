/- FnWordFor: for every input the law returns true, and its argument reads as before. -/
import Derived.Test.YtmmggbcmailbiaaGDY
import Derived.Test.YtmmggbcmailbiaaGWA
import Derived.Test.YtmmggbcmailbiaaGXA
import Derived.Deep.RegionHeld3
import Derived.Outline
namespace Go.Proofs.Ytmmggbcmailbiaa
open Go.ChangeShapes Go.WideShapes Go.ChangeAt Go.RowKit Grp

set_option maxRecDepth 100000 in
set_option maxHeartbeats 4000000 in
theorem FnWordFor_walk (n : Nat) (v : Value) (w : World) (h : BytS w w.heap.size v n) :
    Calls Try.prog 3 #[v] w fun e w' => e = .returned (.bool true) ∧ Below w.heap.size w w' := by
  obtain ⟨bao, bcap, hv⟩ : ∃ ao cap, v = .slice ao n cap := by obtain ⟨ao, cap, h1, _⟩ := h; exact ⟨ao, cap, h1⟩
  subst hv
  have HV := hidI h; clear h
  by_cases hbig : 1048576 < n
  · go_enter Try.func3, Try.ntmps3
    go_wp2_with fail
    go_ret
    exact ⟨rfl, Below.refl _ _⟩
  have hbig2 : (n : Int) ≤ 1048576 := by omega
  go_enter Try.func3, Try.ntmps3
  go_wp2_with fail
  go_fit (spec_DrawWordFor n _ w HV.out); rintro e w1 ⟨q, g, c, us, pss, wv, zs, rfl, hq0, hq5, hpl, hls, hr, hel, -, hzl300, b1⟩
  have HR := hidI hr; have B1 := hidI b1; have HLS := hidI hls
  have hgl := hr.lt rfl
  obtain ⟨-, -, hgc, hgm⟩ := hgl
  unfold maxLen at hgm
  obtain ⟨_, uo, uc, hu, hu1, hu2, -⟩ := id hel.1
  subst hu
  unfold maxLen at hu2
  obtain ⟨zl, hzl⟩ : ∃ zl, zl = zs.length := ⟨_, rfl⟩
  rw [← hzl] at hel hu1 hzl300 ⊢
  have HE := hidI hel.1
  obtain ⟨xs, hxs⟩ : ∃ xs, xs = wres (wordOf q pss zs) := ⟨_, rfl⟩
  have HX := hidI hxs
  have H64 := hidI (show ∀ z ∈ xs, I64 z by rw [hxs]; exact (wordOf_facts q pss zs).2)
  have hx3 : xs.length ≤ 3125 := by rw [hxs]; exact (wordOf_facts q pss zs).1
  obtain ⟨b, hb⟩ : ∃ b, b = (wordOf q pss zs).isSome := ⟨_, rfl⟩
  have HBo := hidI hb
  have HHas := hidI (show hasOf q pss zs = b by rw [hb, word_has])
  have hbb : (b != b) = false := by simp
  clear hr b1 hls hel hzl hxs hb
  go_wp2_with fail
  go_fit (impl_WordForA q pss zs _ _ _ HR.out.reads HE.out); rintro e w2 ⟨v2, rfl, o2, b2⟩
  rw [← HX.out] at o2
  rw [← HBo.out]
  have I2 := hidI (IntS.ofOwn o2 H64.out).2
  have B2 := hidI (bthen B1.out b2); have R2 := hidI (HR.out.below b2); have E2 := hidI (HE.out.below b2)
  obtain ⟨_, ao2, c2, hv2, hc2, hc2m, -⟩ := id I2.out
  subst hv2
  unfold maxLen at hc2m
  obtain ⟨wl, hwl⟩ : ∃ wl, wl = xs.length := ⟨_, rfl⟩
  have HWL := hidI hwl
  have I2 := hidI (show IntS w2 (.slice ao2 wl c2) xs by rw [hwl]; exact I2.out)
  rw [← hwl] at hc2 hx3 ⊢
  clear o2 b2 hwl
  go_wp2_with fail
  go_fit (spec_WordForA q pss zs _ _ _ R2.out.reads E2.out HLS.out); rintro e w3 ⟨v3, rfl, i3, b3⟩
  rw [← HX.out] at i3
  rw [← HBo.out]
  have I3 := hidI i3
  have I23 := hidI (I2.out.below b3)
  have B3 := hidI (bthen B2.out b3); have R3 := hidI (R2.out.below b3); have E3 := hidI (E2.out.below b3)
  obtain ⟨_, ao3, c3, hv3, -⟩ := id I3.out
  subst hv3
  clear i3 b3
  go_wp2_with fail
  go_fit (laws_sameSame xs _ _ _ I23.out I3.out); rintro e w4 ⟨rfl, n4, hw4⟩
  have b4 : Below w3.heap.size w3 w4 := by rw [hw4]; exact bdraw _ _
  have I4 := hidI (I23.out.below b4)
  have B4 := hidI (bthen B3.out b4); have R4 := hidI (R3.out.below b4); have E4 := hidI (E3.out.below b4)
  clear hw4 b4 I3 I23 I2 R2 R3 E2 E3 HR HE B1 B2 B3
  go_wp2_with fail
  go_fit (impl_GroupHasA q pss zs _ _ _ R4.out.reads E4.out); rintro e w5 ⟨rfl, b5⟩
  rw [HHas.out]
  have I4 := hidI (I4.out.below b5)
  have B4 := hidI (bthen B4.out b5); have R4 := hidI (R4.out.below b5); have E4 := hidI (E4.out.below b5)
  clear b5
  obtain ⟨w4, hw⟩ : ∃ w4, w4 = w5 := ⟨_, rfl⟩
  subst hw
  cases b
  · have hw0 : wl = 0 := by
      rw [HWL.out, HX.out]
      have := HBo.out
      cases e : wordOf q pss zs with
      | none => rfl
      | some l => rw [e] at this; cases this
    go_wp2_with fail
    go_fit (laws_alive _); rintro e w6 ⟨rfl, b6⟩
    have B6 := hidI (bthen B4.out b6); clear b6
    go_wp2_with fail
    go_ret
    exact ⟨rfl, B6.out⟩
  obtain ⟨l, hl⟩ : ∃ l, wordOf q pss zs = some l := by
    have := HBo.out
    cases e : wordOf q pss zs with
    | none => rw [e] at this; cases this
    | some l => exact ⟨l, rfl⟩
  obtain ⟨N, p, h1, h5, hp, hzp, hwp, hsh⟩ := word_law q pss zs l hl
  subst hzp
  have hxl : xs = upW l := by rw [HX.out, hl]; rfl
  have HWP := hidI (show wpOf q pss xs = up p by rw [hxl]; exact hwp)
  have HLL := hidI (show wl = l.length by rw [HWL.out, hxl, upW_len])
  have HP := hidI hp; have HSH := hidI hsh
  clear hl hp hwp hsh hxl HX HBo HHas HWL
  have HAT := hidI (show ∀ (j : Nat) (m : List Int), pss[j]? = some m → ∃ u, w4.cell? ⟨g, j, none⟩ = some u ∧ IntS w4 u m from fun j m hm => by
    obtain ⟨u, -, hc, he⟩ := R4.out.at hm
    exact ⟨u, hc, he.1⟩)
  have hgw : g < w4.heap.size := (R4.out.lt rfl).2.1
  go_wp2_with fail
  go_loopw [10] (fun vj wr => ∃ j : Nat, vj = .int .i64 (j : Int) ∧ j ≤ pss.length ∧ Hid (Below w4.heap.size w4 wr)) (fun vj _ => pss.length - (intOf vj).toNat)
  case atStart => exact ⟨0, rfl, by omega, hidI (Below.refl _ _)⟩
  case round =>
    obtain ⟨j, rfl, hj, HB⟩ := hrel
    by_cases hlt : j < pss.length
    rotate_left
    · have hjI : ¬ (j : Int) < (pss.length : Int) := by omega
      have IX := hidI (I4.out.below HB.out)
      go_wp2_with fail
      go_fit (impl_WordPermA q pss xs _ _ _ (R4.out.below HB.out).reads IX.out); rintro e w5 ⟨v5, rfl, o5, b5⟩
      rw [HWP.out] at o5
      have I5 := hidI (IntS.ofOwn o5 (up_I64 HP.out h5)).2
      have B5 := hidI (bthen HB.out b5)
      obtain ⟨_, ao5, c5, hv5, -⟩ := id I5.out
      subst hv5
      clear o5 b5
      go_wp2_with fail
      go_fit (laws_sameSame (up p) _ _ _ I5.out (E4.out.below B5.out)); rintro e w6 ⟨rfl, n6, hw6⟩
      have B6 := hidI (show Below w.heap.size w w6 by rw [hw6]; exact bthen B4.out (bthen B5.out (bdraw _ _)))
      clear hw6
      go_wp2_with fail
      go_ret
      exact ⟨rfl, B6.out⟩
    have hjI : (j : Int) < (pss.length : Int) := by omega
    by_cases hw0 : wl = 0
    · subst hw0
      have IX := hidI (I4.out.below HB.out)
      go_wp2_with fail
      go_fit (impl_WordPermA q pss xs _ _ _ (R4.out.below HB.out).reads IX.out); rintro e w5 ⟨v5, rfl, o5, b5⟩
      rw [HWP.out] at o5
      have I5 := hidI (IntS.ofOwn o5 (up_I64 HP.out h5)).2
      have B5 := hidI (bthen HB.out b5)
      obtain ⟨_, ao5, c5, hv5, -⟩ := id I5.out
      subst hv5
      clear o5 b5
      go_wp2_with fail
      go_fit (laws_sameSame (up p) _ _ _ I5.out (E4.out.below B5.out)); rintro e w6 ⟨rfl, n6, hw6⟩
      have B6 := hidI (show Below w.heap.size w w6 by rw [hw6]; exact bthen B4.out (bthen B5.out (bdraw _ _)))
      clear hw6
      go_wp2_with fail
      go_ret
      exact ⟨rfl, B6.out⟩
    have hw0n : 0 < wl := by omega
    have hwI : (0 : Int) < (wl : Int) := by omega
    obtain ⟨m, hm⟩ : ∃ m, pss[j]? = some m := ⟨_, List.getElem?_eq_getElem hlt⟩
    obtain ⟨pm, l', rfl, hpm, hl', hll⟩ := HSH.out j m hm
    obtain ⟨u, hcu, hu⟩ := HAT.out j _ hm
    have ecm := (HB.out.cell (p := ⟨g, j, none⟩) hgw).trans hcu
    have HU := hidI (hu.below HB.out); have HPM := hidI hpm
    have HO2 := hidI hl'
    have H642 := hidI (show ∀ z ∈ wres (some l'), I64 z by rw [← hl']; exact (wordOf_facts _ _ _).2)
    have hl3 : l'.length ≤ 3125 := by have := (wordOf_facts q pss (up (join p (turn pm)))).1; rw [hl'] at this; rwa [show wres (some l') = upW l' from rfl, upW_len] at this
    obtain ⟨ll, hlle⟩ : ∃ ll, ll = l'.length := ⟨_, rfl⟩
    have HL2 := hidI (show (wres (some l')).length = ll by rw [show wres (some l') = upW l' from rfl, upW_len, hlle])
    have hcmp : ¬ ((ll : Int) < (wl : Int) - 1) := by have := HLL.out; omega
    rw [← hlle] at hl3
    obtain ⟨_, mo, mc, hmv, -⟩ := id HU.out
    subst hmv
    clear hm hpm hl' hll hcu hu hlle hw0
    go_wp2_with fail
    go_fit (impl_PermBack N pm _ _ HU.out HPM.out h1 h5); rintro e w5 ⟨v5, rfl, o5, b5⟩
    have I5 := hidI (IntS.ofOwn o5 (up_I64 (isP_turn HPM.out) h5)).2
    have B5 := hidI (bthen HB.out b5)
    obtain ⟨_, ao5, c5, hv5, -⟩ := id I5.out
    subst hv5
    clear o5 b5
    go_wp2_with fail
    go_fit (impl_PermThen N p (turn pm) _ _ _ (E4.out.below B5.out) I5.out HP.out (isP_turn HPM.out) h1 h5); rintro e w6 ⟨v6, rfl, o6, b6⟩
    have I6 := hidI (IntS.ofOwn o6 (up_I64 (isP_join HP.out (isP_turn HPM.out)) h5)).2
    have B6 := hidI (bthen B5.out b6)
    obtain ⟨_, ao6, c6, hv6, -⟩ := id I6.out
    subst hv6
    clear o6 b6
    go_wp2_with fail
    go_fit (impl_WordForA q pss (up (join p (turn pm))) _ _ _ (R4.out.below B6.out).reads I6.out); rintro e w7 ⟨v7, rfl, o7, b7⟩
    rw [HO2.out] at o7 ⊢
    rw [show (some l').isSome = true from rfl]
    have I7 := hidI (IntS.ofOwn o7 H642.out).2
    have B7 := hidI (bthen B6.out b7)
    obtain ⟨_, ao7, c7, hv7, -⟩ := id I7.out
    rw [HL2.out] at hv7
    subst hv7
    clear o7 b7
    go_wp2_with fail
    go_roundw
    case rel => exact ⟨j + 1, by go_num, by omega, B7⟩
    case measure => simp [intOf]; omega

set_option maxRecDepth 100000 in
theorem FnWordFor_lifted (os : Os) (started : os.Started) (H : Type) (enc : TypeId × Value → H) :
    ReturnsInHanded {} Try.checked os 3 .any (Rows.fnWordForSpec.pre6 enc Try.prog Try.f3 Rows.fnWordForRow.domain false) (Rows.fnWordForSpec.post enc Try.prog Try.f3 false true false false) := by
  refine returnsInHanded_of_change (C := Try.checked) own started (by kernel_rfl) Try.func3
    (ChangeSpec.witness6 (enc := enc) (C := Try.checked) false ⟨#[], #[.slice none 0 0], []⟩ 8 (by kernel_rfl) (by kernel_rfl) (by kernel_rfl) (by kernel_rfl)) ?_
  intro W base args ds gs before hval0 hW hcnd _
  have hval : ∀ (j : Nat) t v, Try.f3.params[j]? = some t → args[j]? = some v → Value.okWide Try.prog W .any base t v := hval0
  have hW' := hW
  obtain ⟨p, q, hA0, hV, rfl, hfz, hnd⟩ := hW
  have hA : DataW.TrodAll enc Try.prog W 0 (fun _ => true) true Try.f3.params.toList args.toList ds p := hA0
  rw [Try.params3] at hA hval
  obtain ⟨rfl, rfl⟩ := trodVars_none hV
  clear hA0 hval0
  simp only [List.append_nil] at hW'
  obtain ⟨v0, d0, rfl, rfl, h0⟩ := trodAll_one hA
  have l0 : ∀ x ∈ p, x.block < W.heap.size := fun x hx => by simpa using hW'.lt x hx
  have k0 : ∀ (W' : World), Below W.heap.size W W' → DataW.Trod enc Try.prog W' 0 (fun b => decide (b < W.heap.size)) true 22 v0 d0 p := fun W' hn => Below.trod laidOut (by kernel_rfl) (of_decide_eq_true (by kernel_rfl)) h0 hn l0
  obtain ⟨n, hn⟩ := open_BytS (hval 0 22 v0 rfl rfl) h0 l0
  refine (FnWordFor_walk n v0 W hn).mono fun e W' ⟨he, hb⟩ => ?_
  subst he
  exact ⟨_, rfl, _, _, _, [], _, [], hW', shut_true, trodAll_mk1 (k0 _ hb), rfl, hb.frame _, fun h => by cases h⟩

theorem FnWordFor_holds : Rows.FnWordForSaid :=
  OpenClaim.holds_of_wide 3 Try.f3 rfl rfl rfl rfl rfl rfl rfl ⟨rfl, rfl, rfl, rfl, rfl⟩ rfl rfl rfl rfl rfl (by kernel_rfl) Try.func3 (by kernel_rfl)
    (of_decide_eq_true (by kernel_rfl)) (by unfold Func.isWrapper; first | (rw [if_pos (by decide +kernel)]; kernel_rfl) | (rw [if_neg (by decide +kernel)]; exact ⟨rfl, rfl⟩))
    (fun os started H enc _ => FnWordFor_lifted os started H enc)
end Go.Proofs.Ytmmggbcmailbiaa
