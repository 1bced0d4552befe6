/- FnOrbitOf: for every input the law returns true, and its argument reads as before. -/
import Derived.Test.YtmmggbcmailbiaaGDX
import Derived.Test.YtmmggbcmailbiaaGC
import Derived.Deep.RegionHeld3
import Derived.Outline
namespace Go.Proofs.Ytmmggbcmailbiaa
open Go.ChangeShapes Go.WideShapes Go.ChangeAt Go.RowKit Grp

theorem orb_law (places x : Int) (pss : List (List Int)) : orbOf places pss x = [] ∨ ∃ (x' s o : Nat), x = (x' : Int) ∧ x' ∈ orbOf places pss x ∧ 1 ≤ (orbOf places pss x).length ∧ (orbOf places pss x).length ≤ 5 ∧ (orbOf places pss x).Pairwise (· < ·) ∧
    leavOf places pss x = (s : Nat) ∧ orderOf places pss = (o : Nat) ∧ (orbOf places pss x).length * s = o ∧ o ≤ 120 ∧
    ∀ y ∈ orbOf places pss x, y < 5 ∧ ((y : Nat) : Int) < places ∧ orbOf places pss ((y : Nat) : Int) = orbOf places pss x ∧ ∀ (j : Nat) (m : List Int), pss[j]? = some m → ∃ z : Nat, m.getD y 0 = (z : Int) ∧ z ∈ orbOf places pss x ∧ y < m.length := by
  rcases leaving_cases (places := places) (x := x) (pss := pss) with h | ⟨n, k, qs, rfl, rfl, h1, h5, rfl, h3, hok, hk⟩
  · exact .inl (orbOf_no h)
  · have hmul := stab_mul h5 hok hk
    have ho : size n qs = (groupL n qs).length := size_eq h5 hok
    have hkm := (orbAsc_mem h5 hok hk k).2 (orb_refl k)
    rw [leavOf_valid h1 h5 h3 hok hk, orderOf_valid h1 h5 h3 hok, orbOf_valid h1 h5 h3 hok hk]
    refine .inr ⟨k, _, _, rfl, hkm, List.length_pos_of_mem hkm, Nat.le_trans (orbAsc_le n qs k) h5, List.pairwise_lt_range.filter _, rfl, rfl, by rw [hmul, ho], size_le h1 h5 hok, fun y hy => ?_⟩
    have hyo := (orbAsc_mem h5 hok hk y).1 hy
    have hyn := orb_lt h5 hok hk hyo
    refine ⟨by omega, by omega, by rw [orbOf_valid h1 h5 h3 hok hyn, orbAsc_same h5 hok hk hyo], fun j m hm => ?_⟩
    rw [List.getElem?_map] at hm
    cases hq : qs[j]? with
    | none => rw [hq] at hm; cases hm
    | some p =>
      rw [hq] at hm
      injection hm with hm
      subst hm
      have hpm := List.mem_of_getElem? hq
      have hp := hok p hpm
      refine ⟨ap p y, ?_, ?_, by rw [up_len, hp.len]; exact hyn⟩
      · rw [List.getD_eq_getElem?_getD, up_get, List.getElem?_eq_getElem (by rw [hp.len]; exact hyn)]
        unfold ap
        rw [List.getD_eq_getElem?_getD, List.getElem?_eq_getElem (by rw [hp.len]; exact hyn)]; rfl
      · exact (orbAsc_mem h5 hok hk _).2 (orb_trans h5 hok hk hyn hyo ((orbitL_mem h5 hok hyn _).2 ⟨p, Gen.gen hok hpm, rfl⟩))

theorem upW_at {l : List Nat} {k y : Nat} (h : l[k]? = some y) : (upW l).getD k 0 = (y : Int) := by
  unfold upW
  rw [List.getD_eq_getElem?_getD, List.getElem?_map, h]; rfl

theorem upW_up {l : List Nat} (h : l.Pairwise (· < ·)) : ∀ i, i + 1 < (upW l).length → (upW l).getD i 0 < (upW l).getD (i + 1) 0 := by
  intro i hi
  rw [upW_len] at hi
  rw [upW_at (List.getElem?_eq_getElem (show i < l.length by omega)), upW_at (List.getElem?_eq_getElem hi)]
  have := List.pairwise_iff_getElem.1 h i (i + 1) (by omega) hi (by omega)
  omega

theorem upW_mem {l : List Nat} {z : Nat} (h : z ∈ l) : (z : Int) ∈ upW l := List.mem_map_of_mem (f := fun x : Nat => (x : Int)) h

set_option maxRecDepth 100000 in
set_option maxHeartbeats 4000000 in
theorem FnOrbitOf_walk (n : Nat) (v : Value) (w : World) (h : BytS w w.heap.size v n) :
    Calls Try.prog 13 #[v] w fun e w' => e = .returned (.bool true) ∧ Below w.heap.size w w' := by
  obtain ⟨bao, bcap, hv⟩ : ∃ ao cap, v = .slice ao n cap := by obtain ⟨ao, cap, h1, _⟩ := h; exact ⟨ao, cap, h1⟩
  subst hv
  have HV := hidI h; clear h
  by_cases hbig : 1048576 < n
  · go_enter Try.func13, Try.ntmps13
    go_wp2_with fail
    go_ret
    exact ⟨rfl, Below.refl _ _⟩
  have hbig2 : (n : Int) ≤ 1048576 := by omega
  go_enter Try.func13, Try.ntmps13
  go_wp2_with fail
  go_fit (spec_DrawOrbitOf n _ w HV.out); rintro e w1 ⟨q, x, g, c, us, pss, rfl, hq0, hq5, hx0, hx5, hpl, hls, hr, b1⟩
  have HR := hidI hr; have B1 := hidI b1; have HLS := hidI hls
  have hgl := hr.lt rfl
  obtain ⟨-, hgb, hgc, hgm⟩ := hgl
  unfold maxLen at hgm
  have HF := hidI (orb_law q x pss)
  obtain ⟨L, hL⟩ : ∃ L, L = orbOf q pss x := ⟨_, rfl⟩
  have HL := hidI hL
  clear hr b1 hls hL
  go_wp2_with fail
  go_fit (impl_OrbitOfA q x pss _ _ HR.out.reads); rintro e w2 ⟨v2, rfl, o2, b2⟩
  rw [← HL.out] at o2
  have hl5 : (∀ y ∈ L, y < 5) := by
    rcases HF.out with hn | ⟨_, _, _, _, _, _, _, _, _, _, _, _, h9⟩
    · intro y hy; rw [HL.out, hn] at hy; cases hy
    · intro y hy; rw [HL.out] at hy; exact (h9 y hy).1
  have H64 := hidI (upW_I64 (l := L) (fun y hy => by have := hl5 y hy; omega))
  have I2 := hidI (IntS.ofOwn o2 H64.out).2
  have B2 := hidI (bthen B1.out b2); have R2 := hidI (HR.out.below b2)
  obtain ⟨_, ao2, c2, hv2, -⟩ := id I2.out
  subst hv2
  clear o2 b2 hl5
  go_wp2_with fail
  go_fit (spec_OrbitOfA q x pss _ _ R2.out.reads HLS.out); rintro e w3 ⟨v3, rfl, o3, b3⟩
  rw [← HL.out] at o3
  have I3 := hidI (IntS.ofOwn o3 H64.out).2
  have I23 := hidI (I2.out.below b3)
  have B3 := hidI (bthen B2.out b3); have R3 := hidI (R2.out.below b3)
  obtain ⟨_, ao3, c3, hv3, -⟩ := id I3.out
  subst hv3
  clear o3 b3
  go_wp2_with fail
  go_fit (laws_sameSame (upW L) _ _ _ I23.out I3.out); rintro e w4 ⟨rfl, n4, hw4⟩
  have b4 : Below w3.heap.size w3 w4 := by rw [hw4]; exact bdraw _ _
  have I4 := hidI (I23.out.below b4)
  have B4 := hidI (bthen B3.out b4); have R4 := hidI (R3.out.below b4)
  clear hw4 b4 I3 I23 R3 R2 I2 HR B1 B2 B3
  rw [upW_len]
  rcases HF.out with hn | ⟨x', s, o, rfl, h1, h2, h3, h4, h5, h6, h7, h8, h9⟩
  · have hL0 : L.length = 0 := by rw [HL.out, hn]; rfl
    clear hn
    go_wp2_with fail
    go_fit (laws_alive _); rintro e w5 ⟨rfl, b5⟩
    have B5 := hidI (bthen B4.out b5); clear b5
    go_wp2_with fail
    go_ret
    exact ⟨rfl, B5.out⟩
  rw [← HL.out] at h1 h2 h3 h4 h7
  have H9 := hidI (show ∀ y ∈ L, y < 5 ∧ ((y : Nat) : Int) < q ∧ orbOf q pss ((y : Nat) : Int) = L ∧ ∀ (j : Nat) (m : List Int), pss[j]? = some m → ∃ z : Nat, m.getD y 0 = (z : Int) ∧ z ∈ L ∧ y < m.length from fun y hy => by
    rw [HL.out] at hy ⊢
    exact h9 y hy)
  have H1 := hidI h1; have H4 := hidI h4; have H5 := hidI h5; have H6 := hidI h6
  have hmul : (L.length : Int) * (s : Int) = (o : Int) := by rw [← h7, Int.natCast_mul]
  clear h1 h4 h5 h6 h7 h9 HF HL
  have hLn : ((L.length : Int) == 0) = false := beq_eq_false_iff_ne.2 (by omega)
  go_wp2_with fail
  obtain ⟨bz, oz, cz, hv4, hc1, hc2, hbz, hcz⟩ := I4.out.addr (by rw [upW_len]; exact h2)
  injection hv4 with hv4 hvn hvc
  subst hv4; subst hvc
  clear hvn
  rw [upW_len] at hc1
  unfold maxLen at hc2
  have HC := hidI (show ∀ (k y : Nat), L[k]? = some y → w4.cell? ⟨bz, oz + k, none⟩ = some (.int .i64 (y : Int)) from fun k y hy => by
    rw [hcz k (by rw [upW_len]; exact (List.getElem?_eq_some_iff.1 hy).1), upW_at hy])
  have I4 := hidI (show IntS w4 (.slice (some ⟨bz, oz, none⟩) L.length c2) (upW L) by have := I4.out; rw [upW_len] at this; exact this)
  clear hcz
  have HAT := hidI (show ∀ (j : Nat) (m : List Int), pss[j]? = some m → ∃ u, w4.cell? ⟨g, j, none⟩ = some u ∧ IntS w4 u m from fun j m hm => by
    obtain ⟨u, -, hc, he⟩ := R4.out.at hm
    exact ⟨u, hc, he.1⟩)
  have hgw : g < w4.heap.size := (R4.out.lt rfl).2.1
  clear hgb
  go_loopw [7] (fun vk wr => ∃ k : Nat, vk = .int .i64 (k : Int) ∧ k ≤ L.length ∧ Hid (Below w4.heap.size w4 wr)) (fun vk _ => L.length - (intOf vk).toNat)
  case atStart => exact ⟨0, rfl, by omega, hidI (Below.refl _ _)⟩
  case round =>
    obtain ⟨k, rfl, hk, HB⟩ := hrel
    obtain ⟨wo, rfl⟩ : ∃ wo, wo = wr := ⟨_, rfl⟩
    by_cases hlt : k < L.length
    rotate_left
    · have hkI : ¬ (k : Int) < (L.length : Int) := by omega
      have HX := hidI (decide_eq_true (upW_mem H1.out))
      have I5 := hidI (I4.out.below HB.out)
      have hm0 : 0 ≤ (L.length : Int) * (s : Int) := by omega
      have hm1 : (L.length : Int) * (s : Int) ≤ 120 := by omega
      clear hlt hk
      go_wp2_with fail
      go_fit (laws_ascend (upW L) _ _ I5.out (upW_up H4.out)); rintro e w5 ⟨rfl, n5, hw5⟩
      have b5 : Below wo.heap.size wo w5 := by rw [hw5]; exact bdraw _ _
      have I6 := hidI (I5.out.below b5); have B5 := hidI (bthen HB.out b5)
      clear hw5 b5
      go_wp2_with fail
      go_fit (laws_hasInt (upW L) (x' : Int) _ _ I6.out); rintro e w' ⟨rfl, rfl⟩
      rw [HX.out]
      go_wp2_with fail
      go_fit (impl_LeavingOrderA q (x' : Int) pss _ _ (R4.out.below B5.out).reads); rintro e w6 ⟨rfl, b6⟩
      rw [H5.out]
      have B6 := hidI (bthen B5.out b6); clear b6
      go_wp2_with fail
      go_fit (impl_GroupOrderA q pss _ _ (R4.out.below B6.out).reads); rintro e w7 ⟨rfl, b7⟩
      rw [H6.out]
      have B7 := hidI (bthen B4.out (bthen B6.out b7)); clear b7
      have hoo : ((o : Int) == (o : Int)) = true := by simp
      go_wp2_with fail
      go_ret
      exact ⟨by simp [hmul], B7.out⟩
    have hkI : (k : Int) < (L.length : Int) := by omega
    obtain ⟨y, hy⟩ : ∃ y, L[k]? = some y := ⟨_, List.getElem?_eq_getElem hlt⟩
    obtain ⟨hy5, hyq, hyo, hym⟩ := H9.out y (List.mem_of_getElem? hy)
    have HYO := hidI hyo; have HYM := hidI hym
    have hyq2 : decide (q ≤ (y : Int)) = false := decide_eq_false (by omega)
    have HCY := hidI (HC.out k y hy)
    clear hy hyo hym
    go_wp2_with fail
    go_loopw [8] (fun vj wr => ∃ j : Nat, vj = .int .i64 (j : Int) ∧ j ≤ pss.length ∧ Hid (Below w4.heap.size w4 wr)) (fun vj _ => pss.length - (intOf vj).toNat)
    case atStart => exact ⟨0, rfl, by omega, HB⟩
    case round =>
      obtain ⟨j, rfl, hj, HB2⟩ := hrel
      have ecy := (HB2.out.cell (p := ⟨bz, oz + k, none⟩) hbz).trans HCY.out
      by_cases hjl : j < pss.length
      · have hjI : (j : Int) < (pss.length : Int) := by omega
        obtain ⟨m, hm⟩ : ∃ m, pss[j]? = some m := ⟨_, List.getElem?_eq_getElem hjl⟩
        obtain ⟨z, hz1, hz2, hz3⟩ := HYM.out j m hm
        have HZ := hidI (decide_eq_true (upW_mem hz2))
        obtain ⟨u, hcu, hu⟩ := HAT.out j m hm
        obtain ⟨mb, mo, mc, hmu, hmc1, hmc2, hmb, hmc⟩ := hu.addr (by omega)
        subst hmu
        have ecm := (HB2.out.cell (p := ⟨g, j, none⟩) hgw).trans hcu
        have hcz := hmc y hz3
        rw [hz1] at hcz
        have ecz := (HB2.out.cell (p := ⟨mb, mo + y, none⟩) hmb).trans hcz
        have hz3I : (y : Int) < (m.length : Int) := by omega
        unfold maxLen at hmc2
        clear hm hz1 hz2 hz3 hcu hu hmc hcz hmb
        go_wp2_with fail
        have HW := hidI HB2.out.drew
        go_region_held3 (fun W => W.cell? ⟨bz, oz + k, none⟩ = some (.int .i64 (y : Int)) ∧ W.cell? ⟨g, j, none⟩ = some (.slice (some ⟨mb, mo, none⟩) m.length mc) ∧ W.cell? ⟨mb, mo + y, none⟩ = some (.int .i64 (z : Int)) ∧ Hid (Below w4.heap.size w4 W)) (first | exact ⟨ecy, ecm, ecz, HW⟩ | (refine ⟨?_, ?_, ?_, ?_⟩ <;> assumption)) (first | (go_at_call 55; go_fit (laws_hasInt (upW L) (z : Int) _ _ (I4.out.below HW.out)); rintro e w' ⟨rfl, rfl⟩; rw [HZ.out]) | fail)
        go_wp2_with fail
        go_roundw
        case rel => exact ⟨j + 1, by go_num, by omega, HW⟩
        case measure => simp [intOf]; omega
      · have hjI : ¬ (j : Int) < (pss.length : Int) := by omega
        go_wp2_with fail
        go_fit (impl_OrbitOfA q (y : Int) pss _ _ (R4.out.below HB2.out).reads); rintro e w5 ⟨v5, rfl, o5, b5⟩
        rw [HYO.out] at o5
        have I5 := hidI (IntS.ofOwn o5 H64.out).2
        have B5 := hidI (bthen HB2.out b5)
        obtain ⟨_, ao5, c5, hv5, -⟩ := id I5.out
        subst hv5
        clear o5 b5
        go_wp2_with fail
        go_fit (laws_sameSame (upW L) _ _ _ I5.out (I4.out.below B5.out)); rintro e w6 ⟨rfl, n6, hw6⟩
        have B6 := hidI (show Below w4.heap.size w4 w6 by rw [hw6]; exact bthen B5.out (bdraw _ _))
        clear hw6
        go_wp2_with fail
        go_roundw
        case rel => exact ⟨k + 1, by go_num, by omega, B6⟩
        case measure => simp [intOf]; omega

set_option maxRecDepth 100000 in
theorem FnOrbitOf_lifted (os : Os) (started : os.Started) (H : Type) (enc : TypeId × Value → H) :
    ReturnsInHanded {} Try.checked os 13 .any (Rows.fnOrbitOfSpec.pre6 enc Try.prog Try.f13 Rows.fnOrbitOfRow.domain false) (Rows.fnOrbitOfSpec.post enc Try.prog Try.f13 false true false false) := by
  refine returnsInHanded_of_change (C := Try.checked) own started (by kernel_rfl) Try.func13
    (ChangeSpec.witness6 (enc := enc) (C := Try.checked) false ⟨#[], #[.slice none 0 0], []⟩ 8 (by kernel_rfl) (by kernel_rfl) (by kernel_rfl) (by kernel_rfl)) ?_
  intro W base args ds gs before hval0 hW hcnd _
  have hval : ∀ (j : Nat) t v, Try.f13.params[j]? = some t → args[j]? = some v → Value.okWide Try.prog W .any base t v := hval0
  have hW' := hW
  obtain ⟨p, q, hA0, hV, rfl, hfz, hnd⟩ := hW
  have hA : DataW.TrodAll enc Try.prog W 0 (fun _ => true) true Try.f13.params.toList args.toList ds p := hA0
  rw [Try.params13] at hA hval
  obtain ⟨rfl, rfl⟩ := trodVars_none hV
  clear hA0 hval0
  simp only [List.append_nil] at hW'
  obtain ⟨v0, d0, rfl, rfl, h0⟩ := trodAll_one hA
  have l0 : ∀ x ∈ p, x.block < W.heap.size := fun x hx => by simpa using hW'.lt x hx
  have k0 : ∀ (W' : World), Below W.heap.size W W' → DataW.Trod enc Try.prog W' 0 (fun b => decide (b < W.heap.size)) true 22 v0 d0 p := fun W' hn => Below.trod laidOut (by kernel_rfl) (of_decide_eq_true (by kernel_rfl)) h0 hn l0
  obtain ⟨n, hn⟩ := open_BytS (hval 0 22 v0 rfl rfl) h0 l0
  refine (FnOrbitOf_walk n v0 W hn).mono fun e W' ⟨he, hb⟩ => ?_
  subst he
  exact ⟨_, rfl, _, _, _, [], _, [], hW', shut_true, trodAll_mk1 (k0 _ hb), rfl, hb.frame _, fun h => by cases h⟩

theorem FnOrbitOf_holds : Rows.FnOrbitOfSaid :=
  OpenClaim.holds_of_wide 13 Try.f13 rfl rfl rfl rfl rfl rfl rfl ⟨rfl, rfl, rfl, rfl, rfl⟩ rfl rfl rfl rfl rfl (by kernel_rfl) Try.func13 (by kernel_rfl)
    (of_decide_eq_true (by kernel_rfl)) (by unfold Func.isWrapper; first | (rw [if_pos (by decide +kernel)]; kernel_rfl) | (rw [if_neg (by decide +kernel)]; exact ⟨rfl, rfl⟩))
    (fun os started H enc _ => FnOrbitOf_lifted os started H enc)
end Go.Proofs.Ytmmggbcmailbiaa
