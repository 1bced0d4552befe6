/- FnExactWordFor: for every input the law returns true, and its arguments read as before. -/
import Derived.Test.YtmmggbcmailbiaaGWX
import Derived.Test.YtmmggbcmailbiaaGE
namespace Go.Proofs.Ytmmggbcmailbiaa
open Go.ChangeShapes Go.WideShapes Go.ChangeAt Go.RowKit

theorem marks_I64E {k n : Nat} (h : k + n ≤ 100000000) : ∀ z ∈ marks k n, I64 z := by
  intro z hz
  have := marks_mem hz
  unfold I64; omega

set_option maxRecDepth 100000 in
set_option maxHeartbeats 4000000 in
theorem FnExactWordFor_walk (n : Int) (pss : List (List Int)) (zs : List Int) (v u : Value) (w : World) (h : IntSS w v pss) (hu : IntS w u zs) :
    Calls Try.prog 5 #[.int .i64 n, v, u] w fun e w' => e = .returned (.bool true) ∧ Below w.heap.size w w' := by
  obtain ⟨ao, cap, hv1, hcap, hmax, _⟩ := id h
  obtain ⟨_, uo, uc, hu1, hul, hum, _⟩ := id hu
  subst hv1; subst hu1
  have HM := hidI h; have HU := hidI hu
  clear h hu
  by_cases hbig : 1048576 < zs.length
  · go_enter Try.func5, Try.ntmps5
    go_wp2_with fail
    go_ret
    exact ⟨rfl, Below.refl _ _⟩
  go_enter Try.func5, Try.ntmps5
  go_wp2_with fail
  refine (szIntSS_any pss _ _ HM.out).mono ?_; rintro e w' ⟨⟨q, rfl, hq⟩, rfl⟩
  by_cases hneg : q < 0
  · clear hq
    go_wp2_with fail
    go_ret
    exact ⟨rfl, Below.refl _ _⟩
  have hq2 := (hq.resolve_left hneg).2
  have HLS := hidI (show ∀ p ∈ pss, p.length ≤ 4000000 from fun p hp => by have := tot_mem hp; omega)
  have htot : 1 + tot pss ≤ 4000000 := by omega
  have hpl : pss.length ≤ 4000000 := by omega
  clear hq hq2
  obtain ⟨hol, hoi⟩ := wordOf_facts n pss zs
  have HOI := hidI hoi; clear hoi
  obtain ⟨o, ho⟩ : ∃ o, o = wordOf n pss zs := ⟨_, rfl⟩
  rw [← ho] at hol HOI
  have HO := hidI ho; clear ho
  obtain ⟨b, hb⟩ : ∃ b, b = o.isSome := ⟨_, rfl⟩
  have Hb := hidI hb; clear hb
  have hbb : (b != b) = false := by simp
  go_wp2_with fail
  refine (toIntSS_any pss _ _ HM.out hpl HLS.out).mono ?_; rintro e w1 ⟨rfl, m1, b1, -⟩
  have M1 := hidI m1; have B1 := hidI b1; clear m1 b1
  go_wp2_with fail
  refine (toIntS_any zs _ _ (HU.out.below B1.out) (by omega)).mono ?_; rintro e w2 ⟨rfl, u2, -, b2⟩
  have U2 := hidI u2; have M2 := hidI (M1.out.below b2); have B2 := hidI (bthen B1.out b2); clear u2 b2
  go_wp2_with fail
  refine (spec_WordForA n pss zs _ _ _ M2.out U2.out HLS.out).mono ?_; rintro e w3 ⟨vw, rfl, i3, b3⟩
  rw [← HO.out] at i3 ⊢
  rw [← Hb.out]
  have W3 := hidI i3; have B3 := hidI (bthen B2.out b3)
  obtain ⟨_, ow, cw, hvw, _⟩ := id W3.out
  subst hvw
  clear i3 b3
  go_wp2_with fail
  refine (toIntSS_any pss _ _ (HM.out.below B3.out) hpl HLS.out).mono ?_; rintro e w4 ⟨rfl, m4, b4, gs, r4, g4⟩
  have Z4 := hidI b4; have M4 := hidI m4; have B4 := hidI (bthen B3.out b4); have R4 := hidI r4; have G4 := hidI g4; have W4 := hidI (W3.out.below b4)
  have hs4 := b4.size
  have hs4' : w3.heap.size < w4.heap.size := by obtain ⟨c, hcc, _⟩ := r4; exact (Array.getElem?_eq_some_iff.1 hcc).1
  clear m4 b4 r4 g4
  go_wp2_with fail
  refine (toIntS_any zs _ _ (HU.out.below B4.out) (by omega)).mono ?_; rintro e w5 ⟨rfl, u5, r5, b5⟩
  have U5 := hidI u5; have R5 := hidI r5; have X5 := hidI b5; have M5 := hidI (M4.out.below b5); have B5 := hidI (bthen B4.out b5); have W5 := hidI (W4.out.below b5)
  have hs5 : w4.heap.size < w5.heap.size := by obtain ⟨c, hcc, _⟩ := r5; exact (Array.getElem?_eq_some_iff.1 hcc).1
  clear u5 b5 r5
  go_wp2_with fail
  refine (impl_WordForA n pss zs _ _ _ M5.out U5.out).mono ?_; rintro e w6 ⟨vg, rfl, o6, b6⟩
  rw [← HO.out] at o6 ⊢
  rw [← Hb.out]
  have O6 := hidI o6; have X6 := hidI (bthen X5.out b6); have B6 := hidI (bthen B5.out b6); have W6 := hidI (W5.out.below b6); have M6 := hidI (M5.out.below b6); have U6 := hidI (U5.out.below b6)
  have Y6 := hidI b6
  have hvgk := hidI (fun k (hk : vg.ownBlock = some k) => (o6.lt k hk).1)
  obtain ⟨_, og, cg, hvg, _⟩ := id (IntS.ofOwn o6 HOI.out).2
  subst hvg
  have hs6 := b6.size
  clear o6 b6
  go_wp2_with fail
  refine (eqIntS_same _ _ _ _ (IntS.ofOwn O6.out HOI.out).2 W6.out).mono ?_; rintro e w7 ⟨rfl, n7, hw7⟩
  have b7 : Below w6.heap.size w6 w7 := by rw [hw7]; exact bdraw _ _
  have O7 := hidI (own_below O6.out b7); have Y7 := hidI (bthen Y6.out b7); have B7 := hidI (bthen B6.out b7); have W7 := hidI (W6.out.below b7); have M7 := hidI (M6.out.below b7); have U7 := hidI (U6.out.below b7)
  clear hw7 b7
  go_wp2_with fail
  refine (toIntSS_any pss _ _ (HM.out.below B7.out) hpl HLS.out).mono ?_; rintro e w8 ⟨rfl, m8, b8, -⟩
  have N8 := hidI m8; have O8 := hidI (own_below O7.out b8); have Y8 := hidI (bthen Y7.out b8); have B8 := hidI (bthen B7.out b8); have W8 := hidI (W7.out.below b8); have M8 := hidI (M7.out.below b8); have U8 := hidI (U7.out.below b8)
  clear m8 b8
  go_wp2_with fail
  refine (eqIntSS_same pss _ _ _ M8.out N8.out).mono ?_; rintro e w9 ⟨rfl, n9, hw9⟩
  have b9 : Below w8.heap.size w8 w9 := by rw [hw9]; exact bdraw _ _
  have O9 := hidI (own_below O8.out b9); have Y9 := hidI (bthen Y8.out b9); have B9 := hidI (bthen B8.out b9); have W9 := hidI (W8.out.below b9); have M9 := hidI (M8.out.below b9); have U9 := hidI (U8.out.below b9)
  clear hw9 b9
  go_wp2_with fail
  refine (toIntS_any zs _ _ (HU.out.below B9.out) (by omega)).mono ?_; rintro e w10 ⟨rfl, n10, -, b10⟩
  have N10 := hidI n10; have O10 := hidI (own_below O9.out b10); have Y10 := hidI (bthen Y9.out b10); have B10 := hidI (bthen B9.out b10); have W10 := hidI (W9.out.below b10); have M10 := hidI (M9.out.below b10); have U10 := hidI (U9.out.below b10)
  clear n10 b10
  go_wp2_with fail
  refine (eqIntS_same zs _ _ _ U10.out N10.out).mono ?_; rintro e w11 ⟨rfl, n11, hw11⟩
  have b11 : Below w10.heap.size w10 w11 := by rw [hw11]; exact bdraw _ _
  have O11 := hidI (own_below O10.out b11); have Y11 := hidI (bthen Y10.out b11); have B11 := hidI (bthen B10.out b11); have W11 := hidI (W10.out.below b11)
  clear hw11 b11
  have Z11 := hidI (bthen Z4.out (bthen X5.out Y11.out))
  have hsz3 := B3.out.size
  have hs11 := Y11.out.size
  have X11 := hidI (bthen X5.out Y11.out)
  have R11 := World.rowIs.of_block R4.out (X11.out.block _ hs4')
  have G11 := (G4.out.below X11.out).mono
  have hgh : ∀ j, j < pss.length → gs j < w4.heap.size := fun j hj => (G4.out.lo j hj).2
  have P11 := hidI (World.rowIs.of_block R5.out (Y11.out.block _ hs5))
  go_wp2_with fail
  refine (markIntSS_any pss w3.heap.size w3.heap.size w4.heap.size 1 gs _ R11 G11 hgh htot hpl).mono ?_; rintro e w12 ⟨⟨k12, rfl, hk12⟩, i12⟩
  have O12 := hidI (own_inside O11.out i12 (fun k hk => .inr (by have := hvgk.out k hk; omega)))
  have Z12 := hidI (Z11.out.trans (Inside.below i12 (Nat.le_succ _) (by omega)))
  have B12 := hidI (B11.out.trans (Inside.below (base := w.heap.size) i12 (by omega) (by omega)))
  have P12 := hidI (World.rowIs.of_block P11.out (i12.block _ (by omega) (.inr (Nat.le_refl _))))
  have hs12 := i12.size
  clear R11 G11 hgh i12
  have HW2 := hidI (own_of_row (xs := zs.map (Value.int .i64)) P12.out (List.length_map _) (fun j hj => by rw [List.getElem?_map, List.getElem?_eq_getElem hj, List.getD_eq_getElem?_getD, List.getElem?_eq_getElem hj]; rfl) (by unfold maxLen; omega))
  go_wp2_with fail
  refine (markIntS_q _ _ _ _ k12 _ _ rfl HW2.out (by omega) (by omega)).mono ?_; rintro e w13 ⟨rfl, -, g13⟩
  have g13 : w12.grownBy w13 (some w4.heap.size) := g13
  have O13 := hidI (own_grown O12.out g13 (fun k hk e => by have := hvgk.out k hk; omega))
  have Z13 := hidI (Z12.out.grown g13 (by omega) (fun k hk => by injection hk with hk; omega))
  have B13 := hidI (B12.out.grown g13 (by omega) (fun k hk => by injection hk with hk; omega))
  have hs13 := g13.size
  have hk13 : ¬ ((k12 : Int) + (zs.length : Int) < 0) := by omega
  clear g13 HW2
  have W13 := hidI (W3.out.below Z13.out)
  go_wp2_with fail
  refine (eqIntS_same _ _ _ _ (IntS.ofOwn O13.out HOI.out).2 W13.out).mono ?_; rintro e w14 ⟨rfl, n14, hw14⟩
  have b14 : Below w13.heap.size w13 w14 := by rw [hw14]; exact bdraw _ _
  have O14 := hidI (own_below O13.out b14); have Z14 := hidI (Z13.out.trans (b14.mono (by omega))); have B14 := hidI (bthen B13.out b14)
  have hs14 := b14.size
  clear hw14 b14
  go_wp2_with fail
  refine (markIntS_q _ _ _ _ 1 _ _ rfl O14.out (by omega) (by omega)).mono ?_; rintro e w15 ⟨rfl, o15, g15⟩
  have B15 := hidI (B14.out.grown g15 (by omega) (fun k hk => by have := hvgk.out k hk; omega))
  have Z15 := hidI (Z14.out.grown g15 (by omega) (fun k hk => by have := hvgk.out k hk; omega))
  obtain ⟨hml, j15⟩ := IntS.ofOwn o15 (marks_I64E (by omega))
  rw [marks_length] at hml
  have J15 := hidI j15
  clear o15 g15 j15 hml
  go_wp2_with fail
  refine (heldIntS_q _ _ 1 _ _ rfl J15.out (by omega) (by omega)).mono ?_; rintro e w' ⟨rfl, rfl⟩
  go_wp2_with fail
  refine (toIntSS_any pss _ _ (HM.out.below B15.out) hpl HLS.out).mono ?_; rintro e w16 ⟨rfl, m16, b16, -⟩
  have M16 := hidI m16; have J16 := hidI (J15.out.below b16); have B16 := hidI (bthen B15.out b16); have Z16 := hidI (bthen Z15.out b16)
  clear m16 b16
  go_wp2_with fail
  refine (toIntS_any zs _ _ (HU.out.below B16.out) (by omega)).mono ?_; rintro e w17 ⟨rfl, u17, -, b17⟩
  have U17 := hidI u17; have M17 := hidI (M16.out.below b17); have J17 := hidI (J16.out.below b17); have B17 := hidI (bthen B16.out b17); have Z17 := hidI (bthen Z16.out b17)
  clear u17 b17
  go_wp2_with fail
  refine (impl_WordForA n pss zs _ _ _ M17.out U17.out).mono ?_; rintro e w18 ⟨vh, rfl, o18, b18⟩
  rw [← HO.out] at o18 ⊢
  rw [← Hb.out]
  obtain ⟨_, oh, ch, hvh, _⟩ := id (IntS.ofOwn o18 HOI.out).2
  subst hvh
  have O18 := hidI o18; have J18 := hidI (J17.out.below b18); have B18 := hidI (bthen B17.out b18); have Z18 := hidI (bthen Z17.out b18)
  clear o18 b18
  go_wp2_with fail
  refine (eqIntS_same _ _ _ _ (IntS.ofOwn O18.out HOI.out).2 (W3.out.below Z18.out)).mono ?_; rintro e w19 ⟨rfl, n19, hw19⟩
  have b19 : Below w18.heap.size w18 w19 := by rw [hw19]; exact bdraw _ _
  have J19 := hidI (J18.out.below b19); have B19 := hidI (bthen B18.out b19)
  clear hw19 b19
  go_wp2_with fail
  refine (heldIntS_q _ _ 1 _ _ rfl J19.out (by omega) (by omega)).mono ?_; rintro e w' ⟨rfl, rfl⟩
  go_wp2_with fail
  go_ret
  exact ⟨rfl, B19.out⟩

set_option maxRecDepth 100000 in
theorem FnExactWordFor_lifted (os : Os) (started : os.Started) (H : Type) (enc : TypeId × Value → H) :
    ReturnsInHanded {} Try.checked os 5 .any (Rows.fnExactWordForSpec.pre6 enc Try.prog Try.f5 Rows.fnExactWordForRow.domain false) (Rows.fnExactWordForSpec.post enc Try.prog Try.f5 false true false false) := by
  refine returnsInHanded_of_change (C := Try.checked) own started (by kernel_rfl) Try.func5
    (ChangeSpec.witness6 (enc := enc) (C := Try.checked) false ⟨#[], #[.int .i64 0, .slice none 0 0, .slice none 0 0], []⟩ 8 (by kernel_rfl) (by kernel_rfl) (by kernel_rfl) (by kernel_rfl)) ?_
  intro W base args ds gs before hval0 hW hcnd _
  have hval : ∀ (j : Nat) t v, Try.f5.params[j]? = some t → args[j]? = some v → Value.okWide Try.prog W .any base t v := hval0
  have hW' := hW
  obtain ⟨p, q, hA0, hV, rfl, hfz, hnd⟩ := hW
  have hA : DataW.TrodAll enc Try.prog W 0 (fun _ => true) true Try.f5.params.toList args.toList ds p := hA0
  rw [Try.params5] at hA hval
  obtain ⟨rfl, rfl⟩ := trodVars_none hV
  clear hA0 hval0
  simp only [List.append_nil] at hW'
  obtain ⟨v0, v1, v2, d0, d1, d2, p0, p1, p2, rfl, rfl, rfl, h0, h1, h2⟩ := trodAll_three hA
  have l0 : ∀ x ∈ p0, x.block < W.heap.size := fun x hx => hW'.lt x (by simp [hx])
  have l1 : ∀ x ∈ p1, x.block < W.heap.size := fun x hx => hW'.lt x (by simp [hx])
  have l2 : ∀ x ∈ p2, x.block < W.heap.size := fun x hx => hW'.lt x (by simp [hx])
  have k0 : ∀ (W' : World), Below W.heap.size W W' → DataW.Trod enc Try.prog W' 0 (fun b => decide (b < W.heap.size)) true 3 v0 d0 p0 := fun W' hn => Below.trod laidOut (by kernel_rfl) (of_decide_eq_true (by kernel_rfl)) h0 hn l0
  have k1 : ∀ (W' : World), Below W.heap.size W W' → DataW.Trod enc Try.prog W' 0 (fun b => decide (b < W.heap.size)) true 23 v1 d1 p1 := fun W' hn => Below.trod laidOut (by kernel_rfl) (of_decide_eq_true (by kernel_rfl)) h1 hn l1
  have k2 : ∀ (W' : World), Below W.heap.size W W' → DataW.Trod enc Try.prog W' 0 (fun b => decide (b < W.heap.size)) true 24 v2 d2 p2 := fun W' hn => Below.trod laidOut (by kernel_rfl) (of_decide_eq_true (by kernel_rfl)) h2 hn l2
  obtain ⟨n, rfl, _⟩ := open_I64 (hval 0 3 v0 rfl rfl) h0
  obtain ⟨pss, hp⟩ := open_IntSS (hval 1 23 v1 rfl rfl) h1 l1
  obtain ⟨zs, hz⟩ := open_IntS (hval 2 24 v2 rfl rfl) h2 l2
  refine (FnExactWordFor_walk n pss zs v1 v2 W hp hz).mono fun e W' ⟨he, hb⟩ => ?_
  subst he
  exact ⟨_, rfl, _, _, _, [], _, [], hW', shut_true, trodAll_mk3 (k0 _ hb) (k1 _ hb) (k2 _ hb), rfl, hb.frame _, fun h => by cases h⟩

theorem FnExactWordFor_holds : Rows.FnExactWordForSaid :=
  OpenClaim.holds_of_wide 5 Try.f5 rfl rfl rfl rfl rfl rfl rfl ⟨rfl, rfl, rfl, rfl, rfl⟩ rfl rfl rfl rfl rfl (by kernel_rfl) Try.func5 (by kernel_rfl)
    (of_decide_eq_true (by kernel_rfl)) (by unfold Func.isWrapper; first | (rw [if_pos (by decide +kernel)]; kernel_rfl) | (rw [if_neg (by decide +kernel)]; exact ⟨rfl, rfl⟩))
    (fun os started H enc _ => FnExactWordFor_lifted os started H enc)
end Go.Proofs.Ytmmggbcmailbiaa
