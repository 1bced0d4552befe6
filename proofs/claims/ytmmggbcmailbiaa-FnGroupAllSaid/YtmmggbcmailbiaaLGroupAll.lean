/- FnGroupAll: for every input the law returns true, and its argument reads as before. -/
import Derived.Test.YtmmggbcmailbiaaGL
import Derived.Test.YtmmggbcmailbiaaGWX
import Derived.Deep.RegionHeld3
import Derived.Outline
namespace Go.Proofs.Ytmmggbcmailbiaa
open Go.ChangeShapes Go.WideShapes Go.ChangeAt Go.RowKit Grp

theorem groupAll_facts (n : Nat) (ms : List Pm) (hn : n ≤ 5) (h : OkM n ms) :
    1 ≤ ((groupW n ms).map Prod.fst).length ∧ ((groupW n ms).map Prod.fst).Nodup ∧ (∀ p ∈ (groupW n ms).map Prod.fst, IsP n p ∧ turn p ∈ (groupW n ms).map Prod.fst ∧ ∀ q ∈ (groupW n ms).map Prod.fst, join p q ∈ (groupW n ms).map Prod.fst) ∧ ((groupW n ms).map Prod.fst)[0]? = some (idP n) := by
  have hm : ∀ p, p ∈ (groupW n ms).map Prod.fst ↔ Gen n ms p := groupL_mem hn h
  refine ⟨?_, (groupW_facts hn h).2.1, fun p hp => ?_, ?_⟩
  · exact List.length_pos_of_mem ((hm _).2 Gen.one)
  · have hg := (hm p).1 hp
    exact ⟨hg.isP h, (hm _).2 (hg.turn hn h), fun q hq => (hm _).2 (hg.join h ((hm q).1 hq))⟩
  · have hpre : [(idP n, ([] : List Nat))] <+: groupW n ms := bfs_pre _ _ _ _
    obtain ⟨t, ht⟩ := hpre
    rw [← ht]; rfl

theorem IntSS.take {w : World} {ao : Option Addr} {n cap k : Nat} {pss : List (List Int)} (h : IntSS w (.slice ao n cap) pss) (hk : k ≤ pss.length) : IntSS w (.slice ao k cap) (pss.take k) := by
  obtain ⟨ao', cap', e, h1, h2, h3⟩ := h
  injection e with e1 e2 e3
  subst e1; subst e3
  have hl : (pss.take k).length = k := by rw [List.length_take]; omega
  refine ⟨_, _, by rw [hl], by omega, h2, ?_⟩
  rcases h3 with ⟨rfl, h3⟩ | ⟨b, off, h4, h5, h6⟩
  · exact .inl ⟨by simp, h3⟩
  · refine .inr ⟨b, off, h4, h5, fun j p hp => h6 j p ?_⟩
    have hj : j < (pss.take k).length := (List.getElem?_eq_some_iff.1 hp).1
    rwa [List.getElem?_take_of_lt (by omega)] at hp

theorem not_before {P : List Pm} {k : Nat} {p : Pm} (h : P.Nodup) (hp : P[k]? = some p) : ¬ up p ∈ (P.map up).take k := by
  intro hm
  rw [← List.map_take] at hm
  obtain ⟨q, hq, e⟩ := List.mem_map.1 hm
  have e := up_inj e
  subst e
  obtain ⟨i, hi⟩ := List.getElem?_of_mem hq
  have hik : i < (P.take k).length := (List.getElem?_eq_some_iff.1 hi).1
  rw [List.length_take] at hik
  rw [List.getElem?_take_of_lt (by omega)] at hi
  have := (List.getElem?_inj (i := i) (j := k) (by omega) h).1 (hi.trans hp.symm)
  omega

theorem rem_nat (k n : Nat) : (7 * (k : Int) + 3).tmod (n : Int) = (((7 * k + 3) % n : Nat) : Int) := by
  rw [Int.tmod_eq_emod_of_nonneg (by omega)]
  simp

set_option maxRecDepth 100000 in
set_option maxHeartbeats 4000000 in
theorem FnGroupAll_walk (n : Nat) (v : Value) (w : World) (h : BytS w w.heap.size v n) :
    Calls Try.prog 10 #[v] w fun e w' => e = .returned (.bool true) ∧ Below w.heap.size w w' := by
  obtain ⟨bao, bcap, hv⟩ : ∃ ao cap, v = .slice ao n cap := by obtain ⟨ao, cap, h1, _⟩ := h; exact ⟨ao, cap, h1⟩
  subst hv
  have HV := hidI h; clear h
  by_cases hbig : 1048576 < n
  · go_enter Try.func10, Try.ntmps10
    go_wp2_with fail
    go_ret
    exact ⟨rfl, Below.refl _ _⟩
  have hbig2 : (n : Int) ≤ 1048576 := by omega
  go_enter Try.func10, Try.ntmps10
  go_wp2_with fail
  go_fit (spec_DrawGroupAll n _ w HV.out); rintro e w1 ⟨q, g, c, us, pss, rfl, hq0, hq5, hpl, hls, hr, b1⟩
  have HR := hidI hr; have B1 := hidI b1; have HLS := hidI hls
  have hgl := hr.lt rfl
  obtain ⟨-, -, hgc, hcm⟩ := hgl
  unfold maxLen at hcm
  clear hr b1 hls
  cases hmv : mvalid q pss
  · have HMV := hidI hmv; clear hmv
    go_wp2_with fail
    go_fit (impl_GroupAll_no q pss _ _ HR.out.reads HMV.out); rintro e w' ⟨rfl, rfl⟩
    go_wp2_with fail
    go_fit (spec_GroupAll_no q pss _ _ HR.out.reads HMV.out HLS.out); rintro e w2 ⟨v2, us2, rfl, r2, b2⟩
    have R2 := hidI r2; have B2 := hidI (bthen B1.out b2); have HR2 := hidI (HR.out.below b2)
    obtain ⟨ao2, c2, hv2, _⟩ := id r2.reads
    subst hv2
    clear r2 b2
    go_wp2_with fail
    go_fit (laws_sameLists [] _ _ _ (IntSS.nil w2) R2.out.reads); rintro e w3 ⟨rfl, n3, hw3⟩
    have B3 := hidI (show Below w.heap.size w w3 by rw [hw3]; exact bthen B2.out (bdraw _ _))
    have HR3 := hidI (show RowsOwn w3 _ _ _ _ by rw [hw3]; exact HR2.out.below (bdraw _ _))
    clear hw3
    go_wp2_with fail
    go_fit (impl_MovesValid q pss _ _ HR3.out.reads); rintro e w' ⟨rfl, rfl⟩; rw [HMV.out]
    go_wp2_with fail
    go_fit (laws_alive _); rintro e w4 ⟨rfl, b4⟩
    have B4 := hidI (bthen B3.out b4); clear b4
    go_wp2_with fail
    go_ret
    exact ⟨rfl, B4.out⟩
  obtain ⟨N, qs, hqN, h1, h5, hps, h3, hok⟩ := (mvalid_iff _ _).1 hmv
  subst hps
  subst hqN
  have HOK := hidI hok; clear hmv hok
  have hq3 : (qs.map up).length = qs.length := List.length_map _
  have hrq := HR.out
  rw [hq3] at hrq hgc
  have HR := hidI hrq; clear hrq
  go_wp2_with fail
  go_fit (impl_GroupAll N qs _ _ HR.out.reads HOK.out h1 h5 h3); rintro e w2 ⟨v2, us2, rfl, r2, b2⟩
  have R2 := hidI r2; have B2 := hidI (bthen B1.out b2); have HR2 := hidI (HR.out.below b2)
  obtain ⟨F1, F2, F3, F4⟩ := groupAll_facts N qs h5 HOK.out
  obtain ⟨P, hP⟩ : ∃ P, P = (groupW N qs).map Prod.fst := ⟨_, rfl⟩
  have hPP : permsOf (groupW N qs) = P.map up := by rw [permsOf_keys, hP]
  rw [← hP] at F1 F2 F3 F4
  have R2 := hidI (show RowsOwn w2 _ _ _ (P.map up) by rw [← hPP]; exact r2)
  have HPP := hidI hPP
  have HPl := hidI (show P.length ≤ 3125 by rw [hP, List.length_map]; exact (groupW_lok N qs).le h5 HOK.out)
  clear hP hPP
  have HF2 := hidI F2; have HF3 := hidI F3; have HF4 := hidI F4
  obtain ⟨ao2, c2, hv2, hc2, hm2⟩ := ints_of_rows R2.out.reads
  subst hv2
  unfold maxLen at hm2
  clear r2 b2 F2 F3 F4
  go_wp2_with fail
  go_fit (spec_GroupAll N qs _ _ HR2.out.reads HOK.out h1 h5 h3); rintro e w3 ⟨v3, us3, rfl, r3, b3⟩
  rw [HPP.out] at r3
  have R3 := hidI r3; have B3 := hidI (bthen B2.out b3); have R23 := hidI (R2.out.below b3)
  obtain ⟨ao3, c3, hv3, _, _⟩ := ints_of_rows R3.out.reads
  subst hv3
  clear r3 b3
  go_wp2_with fail
  go_fit (laws_sameLists (P.map up) _ _ _ R23.out.reads R3.out.reads); rintro e w4 ⟨rfl, n4, hw4⟩
  have B4 := hidI (show Below w.heap.size w w4 by rw [hw4]; exact bthen B3.out (bdraw _ _))
  have R4 := hidI (show RowsOwn w4 _ _ _ _ by rw [hw4]; exact R23.out.below (bdraw _ _))
  clear hw4 R2 R23 R3
  have hP0 : ((P.length : Int) == 0) = false := beq_eq_false_iff_ne.2 (by omega)
  go_wp2_with fail
  have hPl : P.length ≤ 3125 := HPl.out
  obtain ⟨g2, cg, hg2, hgb⟩ := own_shape R4.out.1 (by intro e; injection e with e1 e2 e3; exact absurd e2 (Nat.ne_of_gt F1))
  injection hg2 with hg2 hgn hg3
  clear hgn
  subst hg2; subst hg3
  have hR4 := R4.out
  have lp : (P.map up).length = P.length := List.length_map _
  rw [← lp] at hR4
  have hgl2 := hR4.lt rfl
  rw [lp] at hgl2
  obtain ⟨hga, hgb2, hgc2, -⟩ := hgl2
  obtain ⟨u0, -, hc0, he0⟩ := hR4.at (k := 0) (p := up (idP N)) (by rw [List.getElem?_map, HF4.out]; rfl)
  have HC0 := hidI hc0; have HE0 := hidI he0.1
  have HAT := hidI (show ∀ k p, P[k]? = some p → ∃ u, w4.cell? ⟨g2, k, none⟩ = some u ∧ IntS w4 u (up p) from fun k p hp => by
    obtain ⟨u, -, hc, he⟩ := hR4.at (k := k) (p := up p) (by rw [List.getElem?_map, hp]; rfl)
    exact ⟨u, hc, he.1⟩)
  have HRD := hidI R4.out.reads
  have hPd : P.length < 4000 := by omega
  clear hR4 hc0 he0 lp hgb hPl hga hgc2
  go_loopw [6] (fun vk wr => ∃ k : Nat, vk = .int .i64 (k : Int) ∧ k ≤ P.length ∧ Hid (Below w4.heap.size w4 wr)) (fun vk _ => P.length - (intOf vk).toNat)
  case atStart => exact ⟨0, rfl, by omega, hidI (Below.refl _ _)⟩
  case round =>
    obtain ⟨k, rfl, hk, HB⟩ := hrel
    by_cases hlt : k < P.length
    rotate_left
    · have hkP : P.length = k := by omega
      have h0n : 0 < k := by omega
      have hkI : ¬ (k : Int) < (k : Int) := by omega
      rw [hkP]
      clear hkP hlt hk hPd hP0 HRD R4 R2 HPl F1 hc2
      have ec0 := (HB.out.cell (p := ⟨g2, 0, none⟩) hgb2).trans HC0.out
      obtain ⟨_, uo, uc, hu0, _⟩ := id HE0.out
      subst hu0
      go_wp2_with fail
      have HW := hidI HB.out.drew
      go_region_held3 (fun W => W.cell? ⟨g2, 0, none⟩ = some (.slice uo (up (idP N)).length uc) ∧ Hid (Below w4.heap.size w4 W)) (first | exact ⟨ec0, HW⟩ | (refine ⟨?_, ?_⟩ <;> assumption)) (first | (go_at_call 19; go_fit (laws_sameSame (up (idP N)) _ _ _ (HE0.out.below q6.out) I6.out); rintro e w7 ⟨rfl, n7, hw7⟩; have q7 := hidI (show Below w4.heap.size w4 w7 by rw [hw7]; exact bthen q6.out (bdraw _ _)); have c7 := (q7.out.cell (p := ⟨g2, 0, none⟩) hgb2).trans HC0.out; clear hw7) | (go_at_call 49; go_fit (impl_PermNone N _ h1 h5); rintro e w6 ⟨v6, rfl, o6, b6⟩; have b6' := bthen HW.out b6; have q6 := hidI b6'; have I6 := hidI (IntS.ofOwn o6 (up_I64 (isP_id N) h5)).2; have c6 := (b6'.cell (p := ⟨g2, 0, none⟩) hgb2).trans HC0.out; obtain ⟨_, o6o, c6c, hv6, _⟩ := id I6.out; subst hv6; clear o6 b6 b6') | fail)
      go_wp2_with fail
      go_ret
      exact ⟨rfl, (bthen B4.out q7.out)⟩
    have h0l : (0 : Int) < (P.length : Int) := by omega
    have hkI : (k : Int) < (P.length : Int) := by omega
    have hkc : (k : Int) ≤ (c2 : Int) := by omega
    obtain ⟨j, hj⟩ : ∃ j, j = (7 * k + 3) % P.length := ⟨_, rfl⟩
    have hjl : j < P.length := by rw [hj]; exact Nat.mod_lt _ (by omega)
    have hjI : (7 * (k : Int) + 3).tmod (P.length : Int) = (j : Int) := by rw [rem_nat, hj]
    have hjI2 : (j : Int) < (P.length : Int) := by omega
    obtain ⟨p, hp⟩ : ∃ p, P[k]? = some p := ⟨_, List.getElem?_eq_getElem hlt⟩
    obtain ⟨q, hq⟩ : ∃ q, P[j]? = some q := ⟨_, List.getElem?_eq_getElem hjl⟩
    obtain ⟨up1, hcp, hup⟩ := HAT.out k p hp
    obtain ⟨uq1, hcq, huq⟩ := HAT.out j q hq
    obtain ⟨fp1, fp2, fp3⟩ := HF3.out p (List.mem_of_getElem? hp)
    have fq1 := (HF3.out q (List.mem_of_getElem? hq)).1
    have HPp := hidI fp1; have HPq := hidI fq1
    have D1 := hidI (decide_eq_false (not_before HF2.out hp))
    have D2 := hidI (decide_eq_true (show up (turn p) ∈ P.map up from List.mem_map_of_mem fp2))
    have D3 := hidI (decide_eq_true (show up (join p q) ∈ P.map up from List.mem_map_of_mem (fp3 q (List.mem_of_getElem? hq))))
    have HUp := hidI hup; have HUq := hidI huq
    have HTk := hidI (HRD.out.take (k := k) (by rw [List.length_map]; omega))
    have ecp := (HB.out.cell (p := ⟨g2, k, none⟩) hgb2).trans hcp
    have ecq := (HB.out.cell (p := ⟨g2, j, none⟩) hgb2).trans hcq
    obtain ⟨_, po, pc, hpv, _⟩ := id HUp.out
    obtain ⟨_, qo, qc, hqv, _⟩ := id HUq.out
    subst hpv; subst hqv
    have HCp := hidI hcp; have HCq := hidI hcq
    clear hj hp hq hcp hcq hup huq fp1 fp2 fp3 fq1
    go_wp2_with fail
    have HW := hidI HB.out.drew
    go_region_held3 (fun W => W.cell? ⟨g2, k, none⟩ = some (.slice po (up p).length pc) ∧ W.cell? ⟨g2, j, none⟩ = some (.slice qo (up q).length qc) ∧ Hid (Below w4.heap.size w4 W)) (first | exact ⟨ecp, ecq, HW⟩ | (refine ⟨?_, ?_, ?_⟩ <;> assumption)) (first | (go_at_call 27; go_fit (laws_hasList (P.map up) (up (join p q)) _ _ _ (HRD.out.below q8.out) (I8.out)); rintro e w9 ⟨rfl, n9, hw9⟩; rw [D3.out]; have b9 : Below w4.heap.size w4 w9 := (by rw [hw9]; exact bthen q8.out (bdraw _ _)); have q9 := hidI b9; have cp9 := (b9.cell (p := ⟨g2, k, none⟩) hgb2).trans HCp.out; have cq9 := (b9.cell (p := ⟨g2, j, none⟩) hgb2).trans HCq.out; clear b9 hw9) | (go_at_call 27; go_fit (laws_hasList (P.map up) (up (turn p)) _ _ _ (HRD.out.below q6.out) (I6.out)); rintro e w7 ⟨rfl, n7, hw7⟩; rw [D2.out]; have b7 : Below w4.heap.size w4 w7 := (by rw [hw7]; exact bthen q6.out (bdraw _ _)); have q7 := hidI b7; have cp7 := (b7.cell (p := ⟨g2, k, none⟩) hgb2).trans HCp.out; have cq7 := (b7.cell (p := ⟨g2, j, none⟩) hgb2).trans HCq.out; clear b7 hw7) | (go_at_call 27; go_fit (laws_hasList ((P.map up).take k) (up p) _ _ _ (HTk.out.below HW.out) (HUp.out.below HW.out)); rintro e w5 ⟨rfl, n5, hw5⟩; rw [D1.out]; have b5 : Below w4.heap.size w4 w5 := (by rw [hw5]; exact bthen HW.out (bdraw _ _)); have q5 := hidI b5; have cp5 := (b5.cell (p := ⟨g2, k, none⟩) hgb2).trans HCp.out; have cq5 := (b5.cell (p := ⟨g2, j, none⟩) hgb2).trans HCq.out; clear b5 hw5) | (go_at_call 23; go_fit (impl_PermBack N p _ _ (HUp.out.below q5.out) HPp.out h1 h5); rintro e w6 ⟨v6, rfl, o6, b6⟩; have b6' := bthen q5.out b6; have q6 := hidI b6'; have I6 := hidI (IntS.ofOwn o6 (up_I64 (isP_turn HPp.out) h5)).2; have cp6 := (b6'.cell (p := ⟨g2, k, none⟩) hgb2).trans HCp.out; have cq6 := (b6'.cell (p := ⟨g2, j, none⟩) hgb2).trans HCq.out; obtain ⟨_, o6o, c6c, hv6, _⟩ := id I6.out; subst hv6; clear o6 b6 b6') | (go_at_call 22; go_fit (impl_PermThen N p q _ _ _ (HUp.out.below q7.out) (HUq.out.below q7.out) HPp.out HPq.out h1 h5); rintro e w8 ⟨v8, rfl, o8, b8⟩; have b8' := bthen q7.out b8; have q8 := hidI b8'; have I8 := hidI (IntS.ofOwn o8 (up_I64 (isP_join HPp.out HPq.out) h5)).2; have cp8 := (b8'.cell (p := ⟨g2, k, none⟩) hgb2).trans HCp.out; have cq8 := (b8'.cell (p := ⟨g2, j, none⟩) hgb2).trans HCq.out; obtain ⟨_, o8o, c8c, hv8, _⟩ := id I8.out; subst hv8; clear o8 b8 b8') | fail)
    go_wp2_with fail
    go_roundw
    case rel => exact ⟨k + 1, by go_num, by omega, q9⟩
    case measure => simp [intOf]; omega

set_option maxRecDepth 100000 in
theorem FnGroupAll_lifted (os : Os) (started : os.Started) (H : Type) (enc : TypeId × Value → H) :
    ReturnsInHanded {} Try.checked os 10 .any (Rows.fnGroupAllSpec.pre6 enc Try.prog Try.f10 Rows.fnGroupAllRow.domain false) (Rows.fnGroupAllSpec.post enc Try.prog Try.f10 false true false false) := by
  refine returnsInHanded_of_change (C := Try.checked) own started (by kernel_rfl) Try.func10
    (ChangeSpec.witness6 (enc := enc) (C := Try.checked) false ⟨#[], #[.slice none 0 0], []⟩ 8 (by kernel_rfl) (by kernel_rfl) (by kernel_rfl) (by kernel_rfl)) ?_
  intro W base args ds gs before hval0 hW hcnd _
  have hval : ∀ (j : Nat) t v, Try.f10.params[j]? = some t → args[j]? = some v → Value.okWide Try.prog W .any base t v := hval0
  have hW' := hW
  obtain ⟨p, q, hA0, hV, rfl, hfz, hnd⟩ := hW
  have hA : DataW.TrodAll enc Try.prog W 0 (fun _ => true) true Try.f10.params.toList args.toList ds p := hA0
  rw [Try.params10] at hA hval
  obtain ⟨rfl, rfl⟩ := trodVars_none hV
  clear hA0 hval0
  simp only [List.append_nil] at hW'
  obtain ⟨v0, d0, rfl, rfl, h0⟩ := trodAll_one hA
  have l0 : ∀ x ∈ p, x.block < W.heap.size := fun x hx => by simpa using hW'.lt x hx
  have k0 : ∀ (W' : World), Below W.heap.size W W' → DataW.Trod enc Try.prog W' 0 (fun b => decide (b < W.heap.size)) true 22 v0 d0 p := fun W' hn => Below.trod laidOut (by kernel_rfl) (of_decide_eq_true (by kernel_rfl)) h0 hn l0
  obtain ⟨n, hn⟩ := open_BytS (hval 0 22 v0 rfl rfl) h0 l0
  refine (FnGroupAll_walk n v0 W hn).mono fun e W' ⟨he, hb⟩ => ?_
  subst he
  exact ⟨_, rfl, _, _, _, [], _, [], hW', shut_true, trodAll_mk1 (k0 _ hb), rfl, hb.frame _, fun h => by cases h⟩

theorem FnGroupAll_holds : Rows.FnGroupAllSaid :=
  OpenClaim.holds_of_wide 10 Try.f10 rfl rfl rfl rfl rfl rfl rfl ⟨rfl, rfl, rfl, rfl, rfl⟩ rfl rfl rfl rfl rfl (by kernel_rfl) Try.func10 (by kernel_rfl)
    (of_decide_eq_true (by kernel_rfl)) (by unfold Func.isWrapper; first | (rw [if_pos (by decide +kernel)]; kernel_rfl) | (rw [if_neg (by decide +kernel)]; exact ⟨rfl, rfl⟩))
    (fun os started H enc _ => FnGroupAll_lifted os started H enc)
end Go.Proofs.Ytmmggbcmailbiaa
