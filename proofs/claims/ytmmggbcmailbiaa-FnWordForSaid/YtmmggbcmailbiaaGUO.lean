/- The reference's GroupOrder, GroupHas. -/
import Derived.Test.YtmmggbcmailbiaaGUL
namespace Go.Proofs.Ytmmggbcmailbiaa
open Go.RowKit Grp

set_option maxRecDepth 100000 in
set_option maxHeartbeats 4000000 in
theorem spec_GroupOrder (n : Nat) (ms : List Pm) (v : Value) (w : World) (h : IntSS w v (ms.map up)) (hm : OkM n ms) (h1 : 1 ≤ n) (h5 : n ≤ 5) (h3 : ms.length ≤ 3) :
    Calls Try.prog 41 #[.int .i64 (n : Int), v] w fun e w' => e = .returned (.int .i64 (size n ms : Nat)) ∧ Below w.heap.size w w' := by
  have HV := hidI (show mvalid (n : Int) (ms.map up) = true from (mvalid_iff _ _).2 ⟨n, ms, rfl, h1, h5, rfl, h3, hm⟩)
  have HLN := hidI (ups_lens hm h5)
  have HM := hidI h; have HO := hidI hm
  obtain ⟨ao, cap, hv, hcap, hmax⟩ := ints_of_rows h
  subst hv
  clear h hm
  go_enter Try.func41, Try.ntmps41
  go_wp2_with fail
  refine (spec_MovesValid (n : Int) (ms.map up) _ _ HM.out HLN.out).mono ?_; rintro e w1 ⟨rfl, n1, hw1⟩; rw [HV.out]
  have hb1 : Below w.heap.size w w1 := by rw [hw1]; exact bdraw _ _
  have B1 := hidI hb1
  have M1 := hidI (HM.out.below hb1)
  clear hw1 hb1
  go_wp2_with fail
  go_loopw [1, 5, 6] (fun v1 v5 v6 wr => ∃ (k o : Nat) (ks : List Pm) (ao : Option Addr) (cap : Nat), v1 = .slice ao ks.length cap ∧ v5 = .int .i64 (o : Nat) ∧ v6 = .int .i64 (k : Nat) ∧ k ≤ n ∧ ks.length ≤ 1000 ∧ o ≤ 120 ∧ Hid (IntSS wr (.slice ao ks.length cap) (ks.map up)) ∧ Hid (OkM n ks) ∧
    Hid (o * sizeFrom n ks (List.range' k (n - k)) = size n ms) ∧ Hid (Below w.heap.size w wr)) (fun _ _ v6 _ => n - (intOf v6).toNat)
  case atStart => exact ⟨0, 1, ms, ao, cap, rfl, rfl, rfl, by omega, by omega, by omega, M1, HO, hidI (by unfold size; rw [List.range_eq_range', Nat.one_mul]; rfl), B1⟩
  case round =>
    clear M1 B1
    obtain ⟨k, o, ks, ao2, cap2, rfl, rfl, rfl, hk, hk3, ho, HS, HK, HE, HB⟩ := hrel
    by_cases hlt : k < n
    rotate_left
    · have hkI : ¬ (k : Int) < (n : Int) := by omega
      have HEn := hidI (show o = size n ms by rw [← HE.out, show n - k = 0 by omega]; simp [sizeFrom])
      go_wp2_with fail
      go_ret
      exact ⟨by rw [HEn.out]; rfl, HB.out⟩
    have hkI : (k : Int) < (n : Int) := by omega
    go_wp2_with fail
    refine (spec_l4Orbit n k ks _ wr HS.out HK.out h1 h5 hk3 hlt).mono ?_; rintro e w2 ⟨vf, vb, rfl, hif, hib2, b2⟩
    obtain ⟨_, fo, fc, hvf, _⟩ := id hif
    obtain ⟨bo, bc, hvb, _⟩ := id hib2
    subst hvf; subst hvb
    have HFA := hidI (size_step h5 HK.out hlt ho HE.out (size_le h1 h5 HO.out))
    obtain ⟨L, hL⟩ : ∃ L, L = (orbitW n ks k).length := ⟨_, rfl⟩
    rw [numsI_len, ← hL, bringsOf_len, ← hL]
    rw [← hL] at HFA
    have hmul : wrap64 ((o : Int) * (L : Int)) = ((o * L : Nat) : Int) := by
      have := HFA.out.1
      rw [← Int.natCast_mul]; exact (IntWalk.i64_left _).symm.trans (IntWalk.i64_in _ ⟨by omega, by omega⟩)
    obtain ⟨o2, ho2⟩ : ∃ o2, o2 = o * L := ⟨_, rfl⟩
    rw [← ho2] at hmul HFA
    have HS2 := hidI (HS.out.below b2); have HB2 := hidI (bthen HB.out b2)
    clear hif hib2 b2 hL ho2
    go_wp2_with fail
    refine (spec_l4Leave n k ks _ w2 HS2.out HK.out h1 h5 hk3 hlt).mono ?_; rintro e w3 ⟨v3, rfl, hi3, b3⟩
    obtain ⟨ao3, cap3, hv3, _, _⟩ := ints_of_rows hi3
    subst hv3
    have HS3 := hidI hi3; have HB3 := hidI (bthen HB2.out b3)
    clear hi3 b3
    go_wp2_with fail
    go_roundw
    case rel => exact ⟨k + 1, o2, leave n ks k, ao3, cap3, rfl, rfl, by go_num, by omega, by have := (leave_lv h5 HK.out hlt).len h1 h5; omega, HFA.out.1, HS3, hidI (leave_ok h5 HK.out hlt), hidI HFA.out.2, HB3⟩
    case measure => simp [intOf]; omega

theorem spec_GroupOrder_no (places : Int) (pss : List (List Int)) (v : Value) (w : World) (h : IntSS w v pss) (hm : mvalid places pss = false) (hl : ∀ m ∈ pss, m.length ≤ 4000000) :
    Calls Try.prog 41 #[.int .i64 places, v] w fun e w' => e = .returned (.int .i64 (-1)) ∧ Below w.heap.size w w' := by
  have HM := hidI h; have HO := hidI hm; have HL := hidI hl
  obtain ⟨ao, cap, hv, _, _⟩ := id h
  subst hv
  clear h hm hl
  go_enter Try.func41, Try.ntmps41
  go_wp2_with fail
  refine (spec_MovesValid places pss _ _ HM.out HL.out).mono ?_; rintro e w1 ⟨rfl, n1, hw1⟩; rw [HO.out]
  have B1 := hidI (show Below w.heap.size w w1 by rw [hw1]; exact bdraw _ _)
  clear hw1
  go_wp2_with fail
  go_ret
  exact ⟨rfl, B1.out⟩

set_option maxRecDepth 100000 in
set_option maxHeartbeats 4000000 in
theorem spec_GroupHas (n : Nat) (ms : List Pm) (p : Pm) (v u : Value) (w : World) (h : IntSS w v (ms.map up)) (hu : IntS w u (up p)) (hp : IsP n p) (hm : OkM n ms) (h1 : 1 ≤ n) (h5 : n ≤ 5) (h3 : ms.length ≤ 3) :
    Calls Try.prog 26 #[.int .i64 (n : Int), v, u] w fun e w' => e = .returned (.bool (has n ms p)) ∧ Below w.heap.size w w' := by
  have HV := hidI (show mvalid (n : Int) (ms.map up) = true from (mvalid_iff _ _).2 ⟨n, ms, rfl, h1, h5, rfl, h3, hm⟩)
  have HVP := hidI (pvalid_up hp h1 h5)
  have HLN := hidI (ups_lens hm h5)
  have HM := hidI h; have HO := hidI hm; have HU := hidI hu; have HP := hidI hp
  obtain ⟨ao, cap, hv, hcap, hmax⟩ := ints_of_rows h
  subst hv
  obtain ⟨bu, ou, cu, hu0, hu1, hu2, hu3, -⟩ := up_cells hu hp h1
  subst hu0
  have hpl : (up p).length ≤ 4000000 := by rw [up_len, hp.len]; omega
  have hnn : ((n : Int) != (n : Int)) = false := by simp
  clear h hm hu hp
  go_enter Try.func26, Try.ntmps26
  go_wp2_with fail
  refine (spec_MovesValid (n : Int) (ms.map up) _ _ HM.out HLN.out).mono ?_; rintro e w1 ⟨rfl, n1, hw1⟩; rw [HV.out]
  have hb1 : Below w.heap.size w w1 := by rw [hw1]; exact bdraw _ _
  have B1 := hidI hb1
  have M1 := hidI (HM.out.below hb1); have U1 := hidI (HU.out.below hb1)
  clear hw1 hb1
  go_wp2_with fail
  refine (spec_PermValid (up p) _ _ U1.out hpl).mono ?_; rintro e w2 ⟨rfl, n2, hw2⟩; rw [HVP.out]
  have hb2 : Below w1.heap.size w1 w2 := by rw [hw2]; exact bdraw _ _
  have B2 := hidI (bthen B1.out hb2)
  have M2 := hidI (M1.out.below hb2); have U2 := hidI (U1.out.below hb2)
  clear hw2 hb2 M1 U1 B1
  go_wp2_with fail
  go_loopw [1, 2, 7] (fun v1 v2 v7 wr => ∃ (k : Nat) (q : Pm) (ks : List Pm) (ao : Option Addr) (cap : Nat), v1 = .slice ao ks.length cap ∧ v7 = .int .i64 (k : Nat) ∧ k ≤ n ∧ ks.length ≤ 1000 ∧ Hid (IsP n q) ∧ Hid (IntS wr v2 (up q)) ∧ Hid (IntSS wr (.slice ao ks.length cap) (ks.map up)) ∧ Hid (OkM n ks) ∧
    Hid (hasFrom n ks q (List.range' k (n - k)) = has n ms p) ∧ Hid (Below w.heap.size w wr)) (fun _ _ v7 _ => n - (intOf v7).toNat)
  case atStart => exact ⟨0, p, ms, ao, cap, rfl, rfl, by omega, by omega, HP, U2, M2, HO, hidI (by unfold has; rw [List.range_eq_range']; rfl), B2⟩
  case round =>
    clear M2 U2 B2
    obtain ⟨k, q, ks, ao2, cap2, rfl, rfl, hk, hk3, HQ, HLf, HS, HK, HE, HB⟩ := hrel
    obtain ⟨bl, ol, cl, hlv, hl1, hl2, hl3, hlc⟩ := up_cells HLf.out HQ.out h1
    unfold maxLen at hl2
    subst hlv
    by_cases hlt : k < n
    rotate_left
    · have hkI : ¬ (k : Int) < (n : Int) := by omega
      have HEn := hidI (show has n ms p = true by rw [← HE.out, show n - k = 0 by omega]; rfl)
      go_wp2_with fail
      go_ret
      exact ⟨by rw [HEn.out]; rfl, HB.out⟩
    have hkI : (k : Int) < (n : Int) := by omega
    have hqk := hlc k hlt
    have Hlc := hidI hlc; clear hlc
    go_wp2_with fail
    refine (spec_l4Orbit n k ks _ wr HS.out HK.out h1 h5 hk3 hlt).mono ?_; rintro e w2 ⟨vf, vb, rfl, hif, hib2, b2⟩
    obtain ⟨hro, hrl⟩ := orbitR_ok h5 HK.out hlt
    have hN : ((orbitW n ks k).map Prod.fst).Nodup := (orbitW_facts h5 HK.out hlt).2.1
    have HF := hidI hif; have HBy := hidI hib2; have HRO := hidI hro; have HN := hidI hN
    obtain ⟨_, fo, fc, hvf, hfc, hfm, _⟩ := id hif
    obtain ⟨bo, bc, hvb, hbc, hbm, _⟩ := id hib2
    subst hvf; subst hvb
    obtain ⟨R, hR⟩ : ∃ R, R = orbitW n ks k := ⟨_, rfl⟩
    have HR := hidI hR
    rw [← hR] at hrl HF HBy HRO HN hfc hbc
    rw [show (orbitW n ks k) = R from HR.out.symm]
    rw [numsI_len] at HF hfc ⊢
    rw [bringsOf_len] at HBy hbc ⊢
    unfold maxLen at hfm hbm
    have hq2 := (b2.cell (p := ⟨bl, ol + k, none⟩) hl3).trans hqk
    obtain ⟨t, ht⟩ : ∃ t, t = ap q k := ⟨_, rfl⟩
    rw [← ht] at hqk hq2
    have HT := hidI ht
    have HS2 := hidI (HS.out.below b2); have HB2 := hidI (bthen HB.out b2); have HL2 := hidI (HLf.out.below b2)
    have s2 := b2.size
    clear hif hib2 b2 hro hN hR ht HS HB
    go_wp2_with fail
    refine (spec_l1Has (numsI R) (t : Int) _ _ HF.out (by rw [numsI_len]; omega)).mono ?_; rintro e w' ⟨rfl, rfl⟩
    by_cases hin : t ∈ R.map Prod.fst
    rotate_left
    · rw [decide_eq_false (fun h => hin (numsI_mem.1 h))]
      have HNo := hidI (show has n ms p = false by
        rw [← HE.out, show n - k = (n - (k + 1)) + 1 by omega]
        show hasFrom n ks q (k :: List.range' (k + 1) (n - (k + 1))) = false
        unfold hasFrom
        rw [if_neg (fun hm => hin (by rw [HT.out, HR.out]; exact hm))])
      clear hin
      go_wp2_with fail
      go_ret
      exact ⟨by rw [HNo.out]; rfl, HB2.out⟩
    rw [decide_eq_true (numsI_mem.2 hin)]
    have HSp := hidI (show hasFrom n (leave n ks k) (join q (turn (tagO R t))) (List.range' (k + 1) (n - (k + 1))) = has n ms p by
      rw [← HE.out, show n - k = (n - (k + 1)) + 1 by omega]
      show _ = hasFrom n ks q (k :: List.range' (k + 1) (n - (k + 1)))
      conv => rhs; unfold hasFrom
      rw [if_pos (show ap q k ∈ orbitL n ks k by rw [HR.out, HT.out] at hin; exact hin), HT.out, HR.out]; rfl)
    have hidx := idx_tag HN.out hin
    obtain ⟨bb, ob, ut, hbo, hbb, hct, hut⟩ := brings_at HBy.out hidx
    subst hbo
    have hil := (List.getElem?_eq_some_iff.1 hidx).1
    have HTP := hidI (HRO.out _ (List.mem_of_getElem? hidx)).2
    obtain ⟨_, to, tc, hutv, _⟩ := id hut
    subst hutv
    obtain ⟨i, hi⟩ : ∃ i, i = (numsI R).idxOf (t : Int) := ⟨_, rfl⟩
    rw [← hi] at hct hil
    have HI := hidI hi; have HUT := hidI hut
    have hilI : (i : Int) < (R.length : Int) := by omega
    have HIN := hidI hin
    clear hi hidx hut hin
    go_wp2_with fail
    refine (spec_l4Index (numsI R) (t : Int) _ w2 HF.out (numsI_mem.2 HIN.out) (by rw [numsI_len]; omega)).mono ?_; rintro e w' ⟨rfl, rfl⟩
    rw [← HI.out]
    go_wp2_with fail
    refine (spec_PermBack n (tagO R t) _ w2 HUT.out HTP.out h1 h5).mono ?_; rintro e w3 ⟨v3, rfl, o3, b3⟩
    have HE3 := hidI (El.ofOwn o3 (up_I64 (isP_turn HTP.out) h5))
    obtain ⟨_, j3, c3, hv3, _⟩ := id HE3.out.1
    subst hv3
    have HL3 := hidI (HL2.out.below b3); have HS3 := hidI (HS2.out.below b3); have HB3 := hidI (bthen HB2.out b3)
    clear o3 b3 hct
    go_wp2_with fail
    refine (spec_PermThen n q (turn (tagO R t)) _ _ w3 HL3.out HE3.out.1 HQ.out (isP_turn HTP.out) h1 h5).mono ?_; rintro e w4 ⟨v4, rfl, o4, b4⟩
    have HE4 := hidI (El.ofOwn o4 (up_I64 (isP_join HQ.out (isP_turn HTP.out)) h5))
    obtain ⟨_, j4, c4, hv4, _⟩ := id HE4.out.1
    subst hv4
    have HS4 := hidI (HS3.out.below b4); have HB4 := hidI (bthen HB3.out b4)
    clear o4 b4
    go_wp2_with fail
    refine (spec_l4Leave n k ks _ w4 HS4.out HK.out h1 h5 hk3 hlt).mono ?_; rintro e w5 ⟨v5, rfl, hi5, b5⟩
    obtain ⟨ao5, cap5, hv5, _, _⟩ := ints_of_rows hi5
    subst hv5
    have HS5 := hidI hi5; have HB5 := hidI (bthen HB4.out b5); have HE5 := hidI (HE4.out.1.below b5)
    clear hi5 b5
    go_wp2_with fail
    go_roundw
    case rel => exact ⟨k + 1, join q (turn (tagO R t)), leave n ks k, ao5, cap5, rfl, by go_num, by omega, by have := (leave_lv h5 HK.out hlt).len h1 h5; omega, hidI (isP_join HQ.out (isP_turn HTP.out)), HE5, HS5, hidI (leave_ok h5 HK.out hlt), HSp, HB5⟩
    case measure => simp [intOf]; omega

theorem spec_GroupHas_no (places : Int) (pss : List (List Int)) (zs : List Int) (v u : Value) (w : World) (h : IntSS w v pss) (hu : IntS w u zs) (hg : gvalid places pss zs = false) (hl : ∀ m ∈ pss, m.length ≤ 4000000) (hzl : zs.length ≤ 4000000) :
    Calls Try.prog 26 #[.int .i64 places, v, u] w fun e w' => e = .returned (.bool false) ∧ Below w.heap.size w w' := by
  have HM := hidI h; have HU := hidI hu; have HL := hidI hl
  obtain ⟨ao, cap, hv, _, _⟩ := id h
  subst hv
  obtain ⟨_, uo, uc, huv, _, hum, _⟩ := id hu
  subst huv
  unfold maxLen at hum
  clear h hu hl
  cases hmv : mvalid places pss
  · have HO := hidI hmv; clear hmv hg
    go_enter Try.func26, Try.ntmps26
    go_wp2_with fail
    refine (spec_MovesValid places pss _ _ HM.out HL.out).mono ?_; rintro e w1 ⟨rfl, n1, hw1⟩; rw [HO.out]
    have B1 := hidI (show Below w.heap.size w w1 by rw [hw1]; exact bdraw _ _)
    clear hw1
    go_wp2_with fail
    go_ret
    exact ⟨rfl, B1.out⟩
  cases hpv : pvalid zs
  · have HO := hidI hmv; have HPv := hidI hpv; clear hmv hpv hg
    go_enter Try.func26, Try.ntmps26
    go_wp2_with fail
    refine (spec_MovesValid places pss _ _ HM.out HL.out).mono ?_; rintro e w1 ⟨rfl, n1, hw1⟩; rw [HO.out]
    have hb1 : Below w.heap.size w w1 := by rw [hw1]; exact bdraw _ _
    have B1 := hidI hb1; have U1 := hidI (HU.out.below hb1)
    clear hw1 hb1
    go_wp2_with fail
    refine (spec_PermValid zs _ _ U1.out hzl).mono ?_; rintro e w2 ⟨rfl, n2, hw2⟩; rw [HPv.out]
    have B2 := hidI (show Below w.heap.size w w2 by rw [hw2]; exact bthen B1.out (bdraw _ _))
    clear hw2
    go_wp2_with fail
    go_ret
    exact ⟨rfl, B2.out⟩
  have hne : ((zs.length : Int) != places) = true := by
    unfold gvalid at hg
    rw [hmv, hpv] at hg
    simp at hg ⊢
    exact hg
  have HO := hidI hmv; have HPv := hidI hpv; clear hmv hpv hg
  go_enter Try.func26, Try.ntmps26
  go_wp2_with fail
  refine (spec_MovesValid places pss _ _ HM.out HL.out).mono ?_; rintro e w1 ⟨rfl, n1, hw1⟩; rw [HO.out]
  have hb1 : Below w.heap.size w w1 := by rw [hw1]; exact bdraw _ _
  have B1 := hidI hb1; have U1 := hidI (HU.out.below hb1)
  clear hw1 hb1
  go_wp2_with fail
  refine (spec_PermValid zs _ _ U1.out hzl).mono ?_; rintro e w2 ⟨rfl, n2, hw2⟩; rw [HPv.out]
  have B2 := hidI (show Below w.heap.size w w2 by rw [hw2]; exact bthen B1.out (bdraw _ _))
  clear hw2
  go_wp2_with fail
  go_ret
  exact ⟨rfl, B2.out⟩
end Go.Proofs.Ytmmggbcmailbiaa
