/- FnGroupHas: for every input the law returns true, and its argument reads as before. -/
import Derived.Test.YtmmggbcmailbiaaGDY
import Derived.Test.YtmmggbcmailbiaaGWA
import Derived.Test.YtmmggbcmailbiaaGXA
import Derived.Deep.RegionHeld3
import Derived.Outline
namespace Go.Proofs.Ytmmggbcmailbiaa
open Go.ChangeShapes Go.WideShapes Go.ChangeAt Go.RowKit Grp

set_option maxRecDepth 100000 in
set_option maxHeartbeats 4000000 in
theorem FnGroupHas_walk (n : Nat) (v : Value) (w : World) (h : BytS w w.heap.size v n) :
    Calls Try.prog 4 #[v] w fun e w' => e = .returned (.bool true) ∧ Below w.heap.size w w' := by
  obtain ⟨bao, bcap, hv⟩ : ∃ ao cap, v = .slice ao n cap := by obtain ⟨ao, cap, h1, _⟩ := h; exact ⟨ao, cap, h1⟩
  subst hv
  have HV := hidI h; clear h
  by_cases hbig : 1048576 < n
  · go_enter Try.func4, Try.ntmps4
    go_wp2_with fail
    go_ret
    exact ⟨rfl, Below.refl _ _⟩
  have hbig2 : (n : Int) ≤ 1048576 := by omega
  go_enter Try.func4, Try.ntmps4
  go_wp2_with fail
  go_fit (spec_DrawGroupHas n _ w HV.out); rintro e w1 ⟨q, g, c, us, pss, wv, zs, rfl, hq0, hq5, hpl, hls, hr, hel, -, hzl300, b1⟩
  have HR := hidI hr; have B1 := hidI b1; have HLS := hidI hls; have HZ3 := hidI hzl300
  have hgl := hr.lt rfl
  obtain ⟨-, hgb, hgc, hgm⟩ := hgl
  unfold maxLen at hgm
  obtain ⟨_, uo, uc, hu, hu1, hu2, -⟩ := id hel.1
  subst hu
  unfold maxLen at hu2
  obtain ⟨zl, hzl⟩ : ∃ zl, zl = zs.length := ⟨_, rfl⟩
  rw [← hzl] at hel hu1 hzl300 ⊢
  have HE := hidI hel; have HZL := hidI hzl
  obtain ⟨o, ho⟩ : ∃ o, o = hasOf q pss zs := ⟨_, rfl⟩
  have HO := hidI ho
  obtain ⟨ha1, ha2⟩ := has_all q pss zs
  have HA1 := hidI ha1; have HA2 := hidI ha2
  clear hr b1 hls hel hzl ho ha1 ha2 hgb
  go_wp2_with fail
  go_fit (impl_GroupHasA q pss zs _ _ _ HR.out.reads HE.out.1); rintro e w2 ⟨rfl, b2⟩
  rw [← HO.out]
  have B2 := hidI (bthen B1.out b2); have R2 := hidI (HR.out.below b2); have E2 := hidI (HE.out.below b2); clear b2
  go_wp2_with fail
  go_fit (spec_GroupHasA q pss zs _ _ _ R2.out.reads E2.out.1 HLS.out (by have := HZ3.out; omega)); rintro e w3 ⟨rfl, b3⟩
  rw [← HO.out]
  have B3 := hidI (bthen B2.out b3); have R3 := hidI (R2.out.below b3); have E3 := hidI (E2.out.below b3); clear b3 HR R2 HE E2 B1 B2
  have hoo : (o != o) = false := by simp
  go_wp2_with fail
  go_fit (impl_GroupAllA q pss _ _ R3.out.reads); rintro e w4 ⟨v4, us4, rfl, r4, b4⟩
  have A4 := hidI r4.reads
  have R4 := hidI (R3.out.below b4); have E4 := hidI (E3.out.below b4); have B4 := hidI (bthen B3.out b4)
  clear r4 b4 R3 E3 B3
  go_wp2_with fail
  go_fit (laws_hasList (allOf q pss) zs _ _ _ A4.out E4.out.1); rintro e w6 ⟨rfl, n6, hw6⟩
  have b6 : Below w4.heap.size w4 w6 := by rw [hw6]; exact bdraw _ _
  have R5 := hidI (R4.out.below b6); have E5 := hidI (E4.out.below b6); have B5 := hidI (bthen B4.out b6)
  clear hw6 b6 R4 E4 B4 A4
  cases o
  · have HH := hidI HO.out.symm
    have HD := hidI (decide_eq_false (HA2.out HH.out))
    rw [HD.out]
    clear HO HA1 HA2 HD
    have RA := hidI (R5.out.alloc (.cells #[] 24))
    have HM1 := hidI (RowsOwn.made w6)
    go_wp2_with (at_builtin; refine wpList_appendRR _ rfl _ _ rfl w6.heap.size (.slice (some ⟨w6.heap.size, 0, none⟩) 0 0) [] [] g 0 c us pss rfl rfl HM1.out RA.out.len (fun j u hj => by rw [Nat.zero_add]; exact (own_cell RA.out.1 hj).1) RA.out.2 (by simp; omega) (by simp) ?_)
    intro v7 w7 ro7 gr7 _
    have gr7 : (w6.alloc (.cells #[] 24)).grownBy w7 (some w6.heap.size) := gr7
    have RO7 := hidI (show RowsOwn w7 w6.heap.size v7 us pss from ro7)
    have HE7 := hidI ((E5.out.below ((Below.refl w6.heap.size w6).alloc (Nat.le_refl _) (.cells #[] 24))).kept gr7 (fun k hk e => by cases e; have := E5.out.lt hk; omega))
    have BL7 := hidI (((Below.refl w6.heap.size w6).alloc (Nat.le_refl _) (.cells #[] 24)).grown gr7 (by simp) (fun j hj => by cases hj; exact Nat.le_refl _))
    have hs7 := gr7.size
    rw [World.size_alloc] at hs7
    clear ro7 gr7 RA HM1
    go_wp2_with (at_builtin; refine wpList_pushR w7 rfl _ _ rfl w6.heap.size v7 us pss (.slice uo zl uc) zs rfl rfl RO7.out HE7.out (by omega) (by omega) ?_)
    intro g8 c8 w8 hg8 rp8 hb8 _ _
    have RP8 := hidI rp8.reads; have B8 := hidI (hb8 _ BL7.out)
    clear rp8 hb8 hg8
    cases hmm : mvalid q (pss ++ [zs])
    · have HMM := hidI hmm; clear hmm
      go_wp2_with fail
      go_fit (impl_MovesValid q (pss ++ [zs]) _ _ RP8.out); rintro e w' ⟨rfl, rfl⟩; rw [HMM.out]
      go_wp2_with fail
      go_fit (laws_alive _); rintro e w9 ⟨rfl, b9⟩
      have B9 := hidI (bthen B5.out (bthen B8.out b9)); clear b9
      go_wp2_with fail
      go_ret
      exact ⟨rfl, B9.out⟩
    obtain ⟨a, b, ha, hb, ha1, hb1, hab⟩ := has_more q pss zs hmm
    have HMM := hidI hmm; have HA := hidI ha; have HB := hidI hb
    have habI : ((a : Int) == (b : Int)) = false := beq_eq_false_iff_ne.2 (fun e => by have := hab.1 (by omega); rw [HH.out] at this; cases this)
    clear hmm ha hb hab
    go_wp2_with fail
    go_fit (impl_MovesValid q (pss ++ [zs]) _ _ RP8.out); rintro e w' ⟨rfl, rfl⟩; rw [HMM.out]
    go_wp2_with fail
    go_fit (impl_GroupOrderA q (pss ++ [zs]) _ _ RP8.out); rintro e w9 ⟨rfl, b9⟩
    rw [HA.out]
    have B9 := hidI (bthen B8.out b9); clear b9
    go_wp2_with fail
    go_fit (impl_GroupOrderA q pss _ _ (R5.out.below B9.out).reads); rintro e w10 ⟨rfl, b10⟩
    rw [HB.out]
    have B10 := hidI (bthen B9.out b10); clear b10
    go_wp2_with fail
    go_fit (laws_alive _); rintro e w11 ⟨rfl, b11⟩
    have B11 := hidI (bthen B5.out (bthen B10.out b11)); clear b11
    go_wp2_with fail
    go_ret
    exact ⟨rfl, B11.out⟩
  · have HH := hidI HO.out.symm
    have HD := hidI (decide_eq_true (HA1.out HH.out).1)
    have hz0 : 0 < zl := by rw [HZL.out]; exact (HA1.out HH.out).2
    have hz0I : (0 : Int) < (zl : Int) := by omega
    rw [HD.out]
    clear HO HA1 HA2 HD
    have RA := hidI (R5.out.alloc (.cells #[] 24))
    have HM1 := hidI (RowsOwn.made w6)
    go_wp2_with (at_builtin; refine wpList_appendRR _ rfl _ _ rfl w6.heap.size (.slice (some ⟨w6.heap.size, 0, none⟩) 0 0) [] [] g 0 c us pss rfl rfl HM1.out RA.out.len (fun j u hj => by rw [Nat.zero_add]; exact (own_cell RA.out.1 hj).1) RA.out.2 (by simp; omega) (by simp) ?_)
    intro v7 w7 ro7 gr7 _
    have gr7 : (w6.alloc (.cells #[] 24)).grownBy w7 (some w6.heap.size) := gr7
    have RO7 := hidI (show RowsOwn w7 w6.heap.size v7 us pss from ro7)
    have HE7 := hidI ((E5.out.below ((Below.refl w6.heap.size w6).alloc (Nat.le_refl _) (.cells #[] 24))).kept gr7 (fun k hk e => by cases e; have := E5.out.lt hk; omega))
    have BL7 := hidI (((Below.refl w6.heap.size w6).alloc (Nat.le_refl _) (.cells #[] 24)).grown gr7 (by simp) (fun j hj => by cases hj; exact Nat.le_refl _))
    have hs7 := gr7.size
    rw [World.size_alloc] at hs7
    clear ro7 gr7 RA HM1
    go_wp2_with (at_builtin; refine wpList_pushR w7 rfl _ _ rfl w6.heap.size v7 us pss (.slice uo zl uc) zs rfl rfl RO7.out HE7.out (by omega) (by omega) ?_)
    intro g8 c8 w8 hg8 rp8 hb8 _ _
    have RP8 := hidI rp8.reads; have B8 := hidI (hb8 _ BL7.out)
    clear rp8 hb8 hg8
    cases hmm : mvalid q (pss ++ [zs])
    · have HMM := hidI hmm; clear hmm
      go_wp2_with fail
      go_fit (impl_MovesValid q (pss ++ [zs]) _ _ RP8.out); rintro e w' ⟨rfl, rfl⟩; rw [HMM.out]
      go_wp2_with fail
      go_fit (laws_alive _); rintro e w9 ⟨rfl, b9⟩
      have B9 := hidI (bthen B5.out (bthen B8.out b9)); clear b9
      go_wp2_with fail
      go_ret
      exact ⟨rfl, B9.out⟩
    obtain ⟨a, b, ha, hb, ha1, hb1, hab⟩ := has_more q pss zs hmm
    have HMM := hidI hmm; have HA := hidI ha; have HB := hidI hb
    have habI : ((a : Int) == (b : Int)) = true := beq_iff_eq.2 (by have := hab.2 HH.out; omega)
    clear hmm ha hb hab
    go_wp2_with fail
    go_fit (impl_MovesValid q (pss ++ [zs]) _ _ RP8.out); rintro e w' ⟨rfl, rfl⟩; rw [HMM.out]
    go_wp2_with fail
    go_fit (impl_GroupOrderA q (pss ++ [zs]) _ _ RP8.out); rintro e w9 ⟨rfl, b9⟩
    rw [HA.out]
    have B9 := hidI (bthen B8.out b9); clear b9
    go_wp2_with fail
    go_fit (impl_GroupOrderA q pss _ _ (R5.out.below B9.out).reads); rintro e w10 ⟨rfl, b10⟩
    rw [HB.out]
    have B10 := hidI (bthen B9.out b10); clear b10
    go_wp2_with fail
    go_fit (laws_alive _); rintro e w11 ⟨rfl, b11⟩
    have B11 := hidI (bthen B5.out (bthen B10.out b11)); clear b11
    go_wp2_with fail
    go_ret
    exact ⟨rfl, B11.out⟩

set_option maxRecDepth 100000 in
theorem FnGroupHas_lifted (os : Os) (started : os.Started) (H : Type) (enc : TypeId × Value → H) :
    ReturnsInHanded {} Try.checked os 4 .any (Rows.fnGroupHasSpec.pre6 enc Try.prog Try.f4 Rows.fnGroupHasRow.domain false) (Rows.fnGroupHasSpec.post enc Try.prog Try.f4 false true false false) := by
  refine returnsInHanded_of_change (C := Try.checked) own started (by kernel_rfl) Try.func4
    (ChangeSpec.witness6 (enc := enc) (C := Try.checked) false ⟨#[], #[.slice none 0 0], []⟩ 8 (by kernel_rfl) (by kernel_rfl) (by kernel_rfl) (by kernel_rfl)) ?_
  intro W base args ds gs before hval0 hW hcnd _
  have hval : ∀ (j : Nat) t v, Try.f4.params[j]? = some t → args[j]? = some v → Value.okWide Try.prog W .any base t v := hval0
  have hW' := hW
  obtain ⟨p, q, hA0, hV, rfl, hfz, hnd⟩ := hW
  have hA : DataW.TrodAll enc Try.prog W 0 (fun _ => true) true Try.f4.params.toList args.toList ds p := hA0
  rw [Try.params4] at hA hval
  obtain ⟨rfl, rfl⟩ := trodVars_none hV
  clear hA0 hval0
  simp only [List.append_nil] at hW'
  obtain ⟨v0, d0, rfl, rfl, h0⟩ := trodAll_one hA
  have l0 : ∀ x ∈ p, x.block < W.heap.size := fun x hx => by simpa using hW'.lt x hx
  have k0 : ∀ (W' : World), Below W.heap.size W W' → DataW.Trod enc Try.prog W' 0 (fun b => decide (b < W.heap.size)) true 22 v0 d0 p := fun W' hn => Below.trod laidOut (by kernel_rfl) (of_decide_eq_true (by kernel_rfl)) h0 hn l0
  obtain ⟨n, hn⟩ := open_BytS (hval 0 22 v0 rfl rfl) h0 l0
  refine (FnGroupHas_walk n v0 W hn).mono fun e W' ⟨he, hb⟩ => ?_
  subst he
  exact ⟨_, rfl, _, _, _, [], _, [], hW', shut_true, trodAll_mk1 (k0 _ hb), rfl, hb.frame _, fun h => by cases h⟩

theorem FnGroupHas_holds : Rows.FnGroupHasSaid :=
  OpenClaim.holds_of_wide 4 Try.f4 rfl rfl rfl rfl rfl rfl rfl ⟨rfl, rfl, rfl, rfl, rfl⟩ rfl rfl rfl rfl rfl (by kernel_rfl) Try.func4 (by kernel_rfl)
    (of_decide_eq_true (by kernel_rfl)) (by unfold Func.isWrapper; first | (rw [if_pos (by decide +kernel)]; kernel_rfl) | (rw [if_neg (by decide +kernel)]; exact ⟨rfl, rfl⟩))
    (fun os started H enc _ => FnGroupHas_lifted os started H enc)
end Go.Proofs.Ytmmggbcmailbiaa
