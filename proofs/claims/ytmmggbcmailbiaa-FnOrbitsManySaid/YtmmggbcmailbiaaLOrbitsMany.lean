/- FnOrbitsMany: for every input the law returns true, and its argument reads as before. -/
import Derived.Test.YtmmggbcmailbiaaGDW
import Derived.Test.YtmmggbcmailbiaaGC
import Derived.Test.YtmmggbcmailbiaaGFS
import Derived.Test.YtmmggbcmailbiaaApp
import Derived.Deep.RegionHeld3
import Derived.Outline
namespace Go.Proofs.Ytmmggbcmailbiaa
open Go.ChangeShapes Go.WideShapes Go.ChangeAt Go.RowKit Grp

theorem turn_rem {k N : Nat} : ((k : Int) + 1).tmod (N : Int) = (((k + 1) % N : Nat) : Int) := by
  rw [Int.tmod_eq_emod_of_nonneg (by omega)]
  simp

theorem upto_turn (N : Nat) : upto (fun k => (k + 1) % N) N = up (turnP N) := by
  unfold upto up turnP
  rw [List.map_map]; rfl

theorem ups_more (qs : List Pm) (p : Pm) : qs.map up ++ [up p] = (qs ++ [p]).map up := by simp

theorem many_more {N : Nat} {qs : List Pm} (h1 : 1 ≤ N) (h5 : N ≤ 5) (h3 : qs.length ≤ 3) (hok : OkM N qs) : manyOf (N : Int) (qs.map up ++ [up (turnP N)]) = if qs.length = 3 then -1 else 1 := by
  rw [ups_more]
  by_cases h : qs.length = 3
  · rw [if_pos h]
    unfold manyOf
    rw [mvalid_head (by rw [List.length_map, List.length_append, List.length_singleton]; omega)]; rfl
  · rw [if_neg h]
    have hk := ok_more hok (turnP_ok h1 h5)
    rw [manyOf_valid h1 h5 (by rw [List.length_append, List.length_singleton]; omega) hk, turn_many h1 h5 hk (by simp)]; rfl

theorem orb_head {N k : Nat} {qs : List Pm} (h5 : N ≤ 5) (hok : OkM N qs) (hk : k < N) : (upW (orbAsc N qs k)).getD 0 0 = ((rep N qs k : Nat) : Int) ∧ 1 ≤ (orbAsc N qs k).length ∧ (∀ y ∈ orbAsc N qs k, y < 5) := by
  have h := (rep_facts h5 hok hk).2.2
  refine ⟨?_, List.length_pos_of_mem ((orbAsc_mem h5 hok hk k).2 (orb_refl k)), fun y hy => ?_⟩
  · rw [List.head?_eq_getElem?] at h
    unfold upW
    rw [List.getD_eq_getElem?_getD, List.getElem?_map, h]; rfl
  · have := orb_lt h5 hok hk ((orbAsc_mem h5 hok hk y).1 hy); omega

set_option maxRecDepth 100000 in
set_option maxHeartbeats 4000000 in
theorem FnOrbitsMany_walk (n : Nat) (v : Value) (w : World) (h : BytS w w.heap.size v n) :
    Calls Try.prog 9 #[v] w fun e w' => e = .returned (.bool true) ∧ Below w.heap.size w w' := by
  obtain ⟨bao, bcap, hv⟩ : ∃ ao cap, v = .slice ao n cap := by obtain ⟨ao, cap, h1, _⟩ := h; exact ⟨ao, cap, h1⟩
  subst hv
  have HV := hidI h; clear h
  by_cases hbig : 1048576 < n
  · go_enter Try.func9, Try.ntmps9
    go_wp2_with fail
    go_ret
    exact ⟨rfl, Below.refl _ _⟩
  have hbig2 : (n : Int) ≤ 1048576 := by omega
  go_enter Try.func9, Try.ntmps9
  go_wp2_with fail
  go_fit (spec_DrawOrbitsMany n _ w HV.out); rintro e w1 ⟨q, g, c, us, pss, rfl, hq0, hq5, hpl, hls, hr, b1⟩
  have HR := hidI hr; have B1 := hidI b1; have HLS := hidI hls
  have hgl := hr.lt rfl
  obtain ⟨-, hgb, hgc, hgm⟩ := hgl
  unfold maxLen at hgm
  obtain ⟨o, ho⟩ : ∃ o, o = manyOf q pss := ⟨_, rfl⟩
  have HO := hidI ho
  clear hr b1 hls ho
  go_wp2_with fail
  go_fit (impl_OrbitsManyA q pss _ _ HR.out.reads); rintro e w2 ⟨rfl, b2⟩
  rw [← HO.out]
  have B2 := hidI (bthen B1.out b2); have R2 := hidI (HR.out.below b2); clear b2
  go_wp2_with fail
  go_fit (spec_OrbitsManyA q pss _ _ R2.out.reads HLS.out); rintro e w3 ⟨rfl, b3⟩
  rw [← HO.out]
  have B3 := hidI (bthen B2.out b3); have R3 := hidI (R2.out.below b3); clear b3 HR R2 B1 B2
  have hoo : (o != o) = false := by simp
  cases hmv : mvalid q pss
  · have hon : o = -1 := HO.out.trans (manyOf_no hmv)
    subst hon
    clear hmv
    go_wp2_with fail
    go_fit (laws_alive _); rintro e w4 ⟨rfl, b4⟩
    have B4 := hidI (bthen B3.out b4); clear b4
    go_wp2_with fail
    go_ret
    exact ⟨rfl, B4.out⟩
  obtain ⟨N, qs, hqN, h1, h5, hps, h3, hok⟩ := (mvalid_iff _ _).1 hmv
  subst hqN
  have HPL := hidI (show pss.length = qs.length by rw [hps, List.length_map])
  have HPS := hidI hps; have HOK := hidI hok
  obtain ⟨m, hm⟩ : ∃ m, m = manyTo N qs N := ⟨_, rfl⟩
  have hon : o = (m : Int) := HO.out.trans (by rw [hps, manyOf_valid h1 h5 h3 hok, hm])
  have HM0 := hidI hm
  have hm5 : m ≤ 5 := by have := manyTo_le N qs N; omega
  have HORB := hidI (show ∀ k, k < N → orbOf (N : Int) pss ((k : Nat) : Int) = orbAsc N qs k from fun k hk => by rw [hps, orbOf_valid h1 h5 h3 hok hk])
  subst hon
  clear hps hok hm hmv HO
  go_wp2_with fail
  go_loopw [6, 7, 8] (fun v6 v7 v8 wr => ∃ k S M : Nat, v6 = .int .i64 (S : Int) ∧ v7 = .int .i64 (M : Int) ∧ v8 = .int .i64 (k : Int) ∧ k ≤ N ∧ S ≤ k * 5 ∧ M ≤ k ∧ Hid (S = orbTo N qs k) ∧ Hid (M = manyTo N qs k) ∧ Hid (Below w3.heap.size w3 wr)) (fun _ _ v8 _ => N - (intOf v8).toNat)
  case atStart => exact ⟨0, 0, 0, rfl, rfl, rfl, by omega, by omega, by omega, hidI rfl, hidI rfl, hidI (Below.refl _ _)⟩
  case round =>
    obtain ⟨k, S, M, rfl, rfl, rfl, hk, hS5, hMk, HS, HM, HB⟩ := hrel
    by_cases hlt : k < N
    · have hkI : (k : Int) < (N : Int) := by omega
      obtain ⟨hh1, hh2, hh3⟩ := orb_head h5 HOK.out hlt
      have HS1 := hidI (orbTo_succ N qs k)
      have HM1 := hidI (manyTo_succ N qs k)
      have HLR := hidI (least_rep h5 HOK.out hlt)
      have HO1 := hidI (HORB.out k hlt)
      have hh4 := orbAsc_le N qs k
      obtain ⟨L, hL⟩ : ∃ L, L = orbAsc N qs k := ⟨_, rfl⟩
      rw [← hL] at hh1 hh2 hh3 hh4 HO1 HS1
      clear hL
      go_wp2_with fail
      go_fit (impl_OrbitOfA (N : Int) (k : Int) pss _ wr (R3.out.below HB.out).reads); rintro e w4 ⟨v4, rfl, o4, b4⟩
      rw [HO1.out] at o4
      have I4 := hidI (IntS.ofOwn o4 (upW_I64 (fun y hy => by have := hh3 y hy; omega))).2
      have B4 := hidI (bthen HB.out b4)
      obtain ⟨bz, oz, cz, hv4, hc1, hc2, hbz, hcz⟩ := I4.out.addr (by rw [upW_len]; exact hh2)
      subst hv4
      unfold maxLen at hc2
      have ec0 : w4.cell? ⟨bz, oz, none⟩ = some (.int .i64 ((rep N qs k : Nat) : Int)) := by
        have := hcz 0 (by rw [upW_len]; omega)
        rw [hh1] at this
        exact this
      rw [upW_len]
      obtain ⟨l, hl⟩ : ∃ l, l = L.length := ⟨_, rfl⟩
      rw [← hl] at hh2 hh4 HS1 ⊢
      obtain ⟨r, hr⟩ : ∃ r, r = rep N qs k := ⟨_, rfl⟩
      rw [← hr] at ec0 HLR
      have hl0 : (0 : Int) < (l : Int) := by omega
      have hl0n : 0 < l := by omega
      clear hh1 hh3 hcz hl hr o4 b4 hc1 I4
      cases hle : least N qs k
      · have hne : ((r : Int) == (k : Int)) = false := beq_eq_false_iff_ne.2 (fun e => by have := HLR.out.2 (by omega); rw [hle] at this; cases this)
        have HS2 := hidI (show S = orbTo N qs (k + 1) by rw [HS1.out, hle, ← HS.out]; rfl)
        have HM2 := hidI (show M = manyTo N qs (k + 1) by rw [HM1.out, hle, ← HM.out]; rfl)
        clear hle
        go_wp2_with fail
        go_roundw
        case rel => exact ⟨k + 1, S, M, rfl, rfl, by go_num, by omega, by omega, by omega, HS2, HM2, B4⟩
        case measure => simp [intOf]; omega
      · have hre : r = k := HLR.out.1 hle
        subst hre
        have HS2 := hidI (show S + l = orbTo N qs (r + 1) by rw [HS1.out, hle, ← HS.out]; rfl)
        have HM2 := hidI (show M + 1 = manyTo N qs (r + 1) by rw [HM1.out, hle, ← HM.out]; rfl)
        clear hle
        go_wp2_with fail
        go_roundw
        case rel => exact ⟨r + 1, S + l, M + 1, by go_num, by go_num, by go_num, by omega, by omega, by omega, HS2, HM2, B4⟩
        case measure => simp [intOf]; omega
    have hkN : k = N := by omega
    subst hkN
    have hSN : S = k := HS.out.trans (orbTo_all h5 HOK.out)
    subst hSN
    have hMm : M = m := HM.out.trans HM0.out.symm
    subst hMm
    clear HS HM hlt hk hS5 hMk
    have hkI : ¬ (S : Int) < (S : Int) := by omega
    go_wp2_with fail
    obtain ⟨wb, hwb⟩ : ∃ wb, wb = wr.alloc (.cells #[] 3) := ⟨_, rfl⟩
    obtain ⟨B0, hB0⟩ : ∃ B0, B0 = wr.heap.size := ⟨_, rfl⟩
    have HOw := hidI (show OutL wb B0 B0 0 0 (upto (fun k => (k + 1) % S) 0) by rw [hwb, hB0]; exact OutL.new [] (by simp) (Nat.le_refl _) (by simp))
    have HBw := hidI (show Below w3.heap.size w3 wb by rw [hwb]; exact HB.out.alloc HB.out.size _)
    have hB3 : w3.heap.size ≤ B0 := by rw [hB0]; exact HB.out.size
    have hBb : B0 ≤ wb.heap.size := by rw [hwb, hB0]; simp
    rw [← hwb, ← hB0]
    clear hwb hB0 HB
    go_loopw [10, 11] (fun v10 v11 wr => ∃ k g2 c2 : Nat, v10 = .slice (some ⟨g2, 0, none⟩) k c2 ∧ v11 = .int .i64 (k : Int) ∧ k ≤ S ∧ B0 ≤ wr.heap.size ∧ Hid (OutL wr B0 g2 k c2 (upto (fun k => (k + 1) % S) k)) ∧ Hid (Below w3.heap.size w3 wr)) (fun _ v11 _ => S - (intOf v11).toNat)
    case atStart => exact ⟨0, B0, 0, rfl, rfl, by omega, hBb, HOw, HBw⟩
    case round =>
      clear HOw HBw hBb
      obtain ⟨k, g2, c2, rfl, rfl, hk, hBr, HOw, HB⟩ := hrel
      by_cases hlt : k < S
      · have hkI : (k : Int) < (S : Int) := by omega
        obtain ⟨x, hx⟩ : ∃ x, x = (k + 1) % S := ⟨_, rfl⟩
        have hxS : x < S := by rw [hx]; exact Nat.mod_lt _ (by omega)
        have hrem : ((k : Int) + 1).tmod (S : Int) = (x : Int) := by rw [turn_rem, hx]
        have HUP := hidI (show upto (fun k => (k + 1) % S) (k + 1) = upto (fun k => (k + 1) % S) k ++ [(x : Int)] by rw [upto_succ, hx])
        have HU := hidI (ints_new wr [(x : Int)] (i64_one (i64_small (by omega))) (by simp))
        have hgl := HOw.out.lt
        clear hx
        go_wp2_with (at_builtin; refine wpList_appendL _ rfl _ _ rfl B0 g2 k c2 (upto (fun k => (k + 1) % S) k) (.slice (some ⟨wr.heap.size, 0, none⟩) 1 1) [(x : Int)] rfl rfl (HOw.out.alloc _) HU.out (by rw [upto_len]; simp; omega) (by simp; omega) ?_)
        intro n5 g5 c5 w5 o5 hb5 hg5
        have hn5 : n5 = k + 1 := by have := o5.1; rw [List.length_append, upto_len] at this; simp at this; omega
        subst hn5
        rw [← HUP.out] at o5
        have hs5 := hg5.size
        rw [World.size_alloc] at hs5
        have HO5 := hidI o5
        have HB5 := hidI ((HB.out.alloc HB.out.size _).grown hg5 (by simp; have := HB.out.size; omega) (fun j hj => by cases hj; omega))
        clear o5 hb5 hg5
        go_wp2_with fail
        go_roundw
        case rel => exact ⟨k + 1, g5, c5, rfl, by go_num, by omega, by omega, HO5, HB5⟩
        case measure => simp [intOf]; omega
      have hkS : k = S := by omega
      subst hkS
      have hkI : ¬ (k : Int) < (k : Int) := by omega
      have HT := hidI (show OutL wr B0 g2 k c2 (up (turnP k)) by rw [← upto_turn]; exact HOw.out)
      clear hlt hk HOw
      have HMM := hidI (show manyOf (k : Int) (pss ++ [up (turnP k)]) = if qs.length = 3 then -1 else 1 by rw [HPS.out]; exact many_more h1 h5 h3 HOK.out)
      have RA := hidI ((R3.out.below HB.out).alloc (.cells #[] 24))
      have HM1 := hidI (RowsOwn.made wr)
      have hgt := HT.out.lt
      go_wp2_with (at_builtin; refine wpList_appendRR _ rfl _ _ rfl wr.heap.size (.slice (some ⟨wr.heap.size, 0, none⟩) 0 0) [] [] g 0 c us pss rfl rfl HM1.out RA.out.len (fun j u hj => by rw [Nat.zero_add]; exact (own_cell RA.out.1 hj).1) RA.out.2 (by simp; omega) (by simp) ?_)
      intro v2 w2 ro2 gr2 _
      have gr2 : (wr.alloc (.cells #[] 24)).grownBy w2 (some wr.heap.size) := gr2
      have RO2 := hidI (show RowsOwn w2 wr.heap.size v2 us pss from ro2)
      have HT2 := hidI ((HT.out.alloc (.cells #[] 24)).other gr2 (by omega))
      have BL2 := hidI (((Below.refl wr.heap.size wr).alloc (Nat.le_refl _) (.cells #[] 24)).grown gr2 (by simp) (fun j hj => by cases hj; exact Nat.le_refl _))
      have hs2 := gr2.size
      rw [World.size_alloc] at hs2
      have HE2 := hidI (El.ofOwn HT2.out.2.2 HT2.out.2.1)
      clear ro2 gr2 RA HM1
      go_wp2_with (at_builtin; refine wpList_pushR w2 rfl _ _ rfl wr.heap.size v2 us pss (.slice (some ⟨g2, 0, none⟩) k c2) (up (turnP k)) rfl rfl RO2.out HE2.out (by omega) (by omega) ?_)
      intro g6 c6 w6 hg6 rp6 hb6 _ _
      have RP6 := hidI rp6.reads; have B6 := hidI (bthen HB.out (hb6 _ BL2.out))
      clear rp6 hb6 hg6
      go_wp2_with fail
      go_fit (impl_OrbitsManyA (k : Int) (pss ++ [up (turnP k)]) _ w6 RP6.out); rintro e w7 ⟨rfl, b7⟩
      have B7 := hidI (bthen B3.out (bthen B6.out b7)); clear b7
      by_cases h33 : pss.length = 3
      · rw [HMM.out, if_pos (HPL.out ▸ h33)]
        have h3I : ((pss.length : Int) == 3) = true := by rw [h33]; rfl
        clear h33
        go_wp2_with fail
        go_ret
        exact ⟨rfl, B7.out⟩
      · rw [HMM.out, if_neg (fun e => h33 (HPL.out.trans e))]
        clear h33
        go_wp2_with fail
        go_ret
        exact ⟨rfl, B7.out⟩

set_option maxRecDepth 100000 in
theorem FnOrbitsMany_lifted (os : Os) (started : os.Started) (H : Type) (enc : TypeId × Value → H) :
    ReturnsInHanded {} Try.checked os 9 .any (Rows.fnOrbitsManySpec.pre6 enc Try.prog Try.f9 Rows.fnOrbitsManyRow.domain false) (Rows.fnOrbitsManySpec.post enc Try.prog Try.f9 false true false false) := by
  refine returnsInHanded_of_change (C := Try.checked) own started (by kernel_rfl) Try.func9
    (ChangeSpec.witness6 (enc := enc) (C := Try.checked) false ⟨#[], #[.slice none 0 0], []⟩ 8 (by kernel_rfl) (by kernel_rfl) (by kernel_rfl) (by kernel_rfl)) ?_
  intro W base args ds gs before hval0 hW hcnd _
  have hval : ∀ (j : Nat) t v, Try.f9.params[j]? = some t → args[j]? = some v → Value.okWide Try.prog W .any base t v := hval0
  have hW' := hW
  obtain ⟨p, q, hA0, hV, rfl, hfz, hnd⟩ := hW
  have hA : DataW.TrodAll enc Try.prog W 0 (fun _ => true) true Try.f9.params.toList args.toList ds p := hA0
  rw [Try.params9] at hA hval
  obtain ⟨rfl, rfl⟩ := trodVars_none hV
  clear hA0 hval0
  simp only [List.append_nil] at hW'
  obtain ⟨v0, d0, rfl, rfl, h0⟩ := trodAll_one hA
  have l0 : ∀ x ∈ p, x.block < W.heap.size := fun x hx => by simpa using hW'.lt x hx
  have k0 : ∀ (W' : World), Below W.heap.size W W' → DataW.Trod enc Try.prog W' 0 (fun b => decide (b < W.heap.size)) true 22 v0 d0 p := fun W' hn => Below.trod laidOut (by kernel_rfl) (of_decide_eq_true (by kernel_rfl)) h0 hn l0
  obtain ⟨n, hn⟩ := open_BytS (hval 0 22 v0 rfl rfl) h0 l0
  refine (FnOrbitsMany_walk n v0 W hn).mono fun e W' ⟨he, hb⟩ => ?_
  subst he
  exact ⟨_, rfl, _, _, _, [], _, [], hW', shut_true, trodAll_mk1 (k0 _ hb), rfl, hb.frame _, fun h => by cases h⟩

theorem FnOrbitsMany_holds : Rows.FnOrbitsManySaid :=
  OpenClaim.holds_of_wide 9 Try.f9 rfl rfl rfl rfl rfl rfl rfl ⟨rfl, rfl, rfl, rfl, rfl⟩ rfl rfl rfl rfl rfl (by kernel_rfl) Try.func9 (by kernel_rfl)
    (of_decide_eq_true (by kernel_rfl)) (by unfold Func.isWrapper; first | (rw [if_pos (by decide +kernel)]; kernel_rfl) | (rw [if_neg (by decide +kernel)]; exact ⟨rfl, rfl⟩))
    (fun os started H enc _ => FnOrbitsMany_lifted os started H enc)
end Go.Proofs.Ytmmggbcmailbiaa
