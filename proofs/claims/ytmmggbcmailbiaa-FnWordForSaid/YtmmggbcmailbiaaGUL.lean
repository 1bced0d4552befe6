/- The reference's l4Leave. -/
import Derived.Test.YtmmggbcmailbiaaGU
namespace Go.Proofs.Ytmmggbcmailbiaa
open Go.RowKit Grp

theorem mem_up {p : Pm} {M : List Pm} : up p ∈ M.map up ↔ p ∈ M := by
  rw [List.mem_map]
  constructor
  · rintro ⟨q, hq, e⟩; rw [← up_inj e]; exact hq
  · intro h; exact ⟨p, h, rfl⟩

theorem brings_at {w : World} {bo : Option Addr} {bc k : Nat} {R : NP} {y : Nat × Pm} (h : IntSS w (.slice bo R.length bc) (bringsOf R)) (hy : R[k]? = some y) : ∃ b off u, bo = some ⟨b, off, none⟩ ∧ b < w.heap.size ∧ w.cell? ⟨b, off + k, none⟩ = some u ∧ IntS w u (up y.2) := by
  have e : bringsOf R = (R.map Prod.snd).map up := by unfold bringsOf; rw [List.map_map]; rfl
  have hl : (R.map Prod.snd).length = R.length := List.length_map _
  rw [e, ← hl] at h
  obtain ⟨b, off, u, h1, h2, h3, h4⟩ := IntSS.at h (k := k) (m := y.2) (by rw [List.getElem?_map, hy]; rfl)
  exact ⟨b, off, u, h1, h2, h3, h4⟩

set_option maxRecDepth 100000 in
set_option maxHeartbeats 4000000 in
theorem spec_l4Leave (n x : Nat) (ms : List Pm) (v : Value) (w : World) (h : IntSS w v (ms.map up)) (hm : OkM n ms) (h1 : 1 ≤ n) (h5 : n ≤ 5) (h3 : ms.length ≤ 1000) (hx : x < n) :
    Calls Try.prog 84 #[.int .i64 (n : Int), v, .int .i64 (x : Int)] w fun e w' => ∃ v', e = .returned v' ∧ IntSS w' v' ((leave n ms x).map up) ∧ Below w.heap.size w w' := by
  have HM := hidI h; have HO := hidI hm
  obtain ⟨ao, cap, hv, hcap, hmax⟩ := ints_of_rows h
  subst hv
  unfold maxLen at hmax
  have HR0 := hidI (RowsOwn.made w)
  have HB0 := hidI ((Below.refl w.heap.size w).alloc (Nat.le_refl _) (.cells #[] 24))
  have HE0 := hidI (bare_made w 24)
  have hs0 : (w.alloc (.cells #[] 24)).heap.size = w.heap.size + 1 := by simp
  clear h hm
  go_enter Try.func84, Try.ntmps84
  go_wp2_with fail
  obtain ⟨w0, hw0⟩ : ∃ w0, w0 = w.alloc (.cells #[] 24) := ⟨_, rfl⟩
  rw [← hw0] at HR0 HB0 HE0 hs0 ⊢
  clear hw0
  refine (spec_l4Orbit n x ms _ w0 (HM.out.below HB0.out) HO.out h1 h5 h3 hx).mono ?_; rintro e w2 ⟨vf, vb, rfl, hif, hib2, b2⟩
  obtain ⟨hro, hrl⟩ := orbitR_ok h5 HO.out hx
  have hN : ((orbitW n ms x).map Prod.fst).Nodup := (orbitW_facts h5 HO.out hx).2.1
  have HF := hidI hif; have HBy := hidI hib2
  obtain ⟨_, fo, fc, hvf, hfc, hfm, _⟩ := id hif
  obtain ⟨bo, bc, hvb, hbc, hbm', _⟩ := id hib2
  subst hvf; subst hvb
  rw [bringsOf_len] at hbc
  rw [numsI_len] at hfc
  unfold maxLen at hfm hbm'
  have HB2 := hidI (bthen HB0.out b2)
  have HR2 := hidI (HR0.out.below b2)
  have E2 := hidI (HE0.out.below b2 (by omega))
  have HMS := hidI (show IntSS w2 (.slice ao ms.length cap) (ms.map up) from HM.out.below HB2.out)
  have s2 := b2.size
  have HRO := hidI hro; have HN := hidI hN
  obtain ⟨R, hR⟩ : ∃ R, R = orbitW n ms x := ⟨_, rfl⟩
  have HR := hidI hR
  rw [← hR] at hrl HF HBy HRO HN hfc hbc
  rw [show (orbitW n ms x) = R from HR.out.symm]
  rw [numsI_len] at HF ⊢
  rw [bringsOf_len] at HBy ⊢
  clear hif hib2 b2 hro hN HR0 HB0 HE0 hR
  go_wp2_with fail
  go_loopw [7, 10] (fun vo vk wr => ∃ (k g c : Nat) (M : List Pm) (us : List Value), vo = .slice (some ⟨g, 0, none⟩) M.length c ∧ vk = .int .i64 (k : Nat) ∧ k ≤ R.length ∧ Hid (M = lvTo n ms R (R.take k)) ∧ Hid (LvOk n M) ∧
    Hid (RowsOwn wr w.heap.size (.slice (some ⟨g, 0, none⟩) M.length c) us (M.map up)) ∧ Hid (g = w.heap.size ∨ w2.heap.size ≤ g) ∧ Hid (Sep w.heap.size w2 wr) ∧ Hid (Below w.heap.size w wr)) (fun _ vk _ => R.length - (intOf vk).toNat)
  case atStart => exact ⟨0, w.heap.size, 0, [], [], rfl, rfl, by omega, hidI rfl, hidI (LvOk.nil n), HR2, hidI (.inl rfl), hidI (Sep.refl _ _), HB2⟩
  case round =>
    clear HR2 HB2
    obtain ⟨k, g, c, M, us, rfl, rfl, hk, HMe, HLk, HOw, HG, HSp, HB⟩ := hrel
    by_cases hlt : k < R.length
    rotate_left
    · have hkn : k = R.length := by omega
      have HEn := hidI (show M = leave n ms x by rw [HMe.out, hkn, List.take_length, HR.out]; rfl)
      have hkI : ¬ (k : Int) < (R.length : Int) := by omega
      clear hkn
      go_wp2_with fail
      go_ret
      refine ⟨_, rfl, ?_, HB.out⟩
      rw [← HEn.out]; exact HOw.out.reads
    obtain ⟨y, hy⟩ : ∃ y, R[k]? = some y := ⟨_, List.getElem?_eq_getElem hlt⟩
    have hkI : (k : Int) < (R.length : Int) := by omega
    have HYk := hidI hy
    have HTk := hidI (take_snoc' hy)
    clear hy
    go_wp2_with fail
    obtain ⟨wo, rfl⟩ : ∃ wo : World, wo = wr := ⟨_, rfl⟩
    go_loopw [7, 11] (fun vo vj wr => ∃ (j g c : Nat) (M : List Pm) (us : List Value), vo = .slice (some ⟨g, 0, none⟩) M.length c ∧ vj = .int .i64 (j : Nat) ∧ j ≤ ms.length ∧ Hid (((ms.map (roundX R y)).drop j).foldl (addL n) M = lvTo n ms R (R.take (k + 1))) ∧ Hid (LvOk n M) ∧
      Hid (RowsOwn wr w.heap.size (.slice (some ⟨g, 0, none⟩) M.length c) us (M.map up)) ∧ Hid (g = w.heap.size ∨ w2.heap.size ≤ g) ∧ Hid (Sep w.heap.size w2 wr) ∧ Hid (Below w.heap.size w wr)) (fun _ vj _ => ms.length - (intOf vj).toNat)
    case atStart => exact ⟨0, g, c, M, us, rfl, rfl, by omega, hidI (by rw [HTk.out, lvTo_snoc, ← HMe.out]; rfl), HLk, HOw, HG, HSp, HB⟩
    case round =>
      clear HMe HLk HOw HG HSp HB
      obtain ⟨j, g, c, M, us, rfl, rfl, hj, HFo, HLk, HOw, HG, HSp, HB⟩ := hrel
      by_cases hjl : j < ms.length
      rotate_left
      · have hEnd := hidI (show M = lvTo n ms R (R.take (k + 1)) by rw [← HFo.out]; exact (fold_end (by omega) M).symm)
        have hjI : ¬ (j : Int) < (ms.length : Int) := by omega
        go_wp2_with fail
        go_roundw
        case rel => exact ⟨k + 1, g, c, M, us, rfl, by go_num, by omega, hEnd, HLk, HOw, HG, HSp, HB⟩
        case measure => simp [intOf]; omega
      obtain ⟨m, hm⟩ : ∃ m, ms[j]? = some m := ⟨_, List.getElem?_eq_getElem hjl⟩
      have hjI : (j : Int) < (ms.length : Int) := by omega
      have HMP := hidI (HO.out m (List.mem_of_getElem? hm))
      have hMr := HMS.out.sep E2.out HSp.out
      have hFr := HF.out.sep E2.out HSp.out
      have hBr := HBy.out.sep E2.out HSp.out
      obtain ⟨b, off, um, hao, hb, hcm, hum⟩ := IntSS.at hMr hm
      subst hao
      obtain ⟨bm, om, cm, rfl, hm1, hm2, hbm, hcu⟩ := up_cells hum HMP.out h1
      unfold maxLen at hm2
      have HUM := hidI hum; have hcm' := hcm
      obtain ⟨hyn, hyp⟩ := HRO.out y (List.mem_of_getElem? HYk.out)
      have HYP := hidI hyp
      have eto := hcu y.1 hyn
      have htn := ap_lt HMP.out hyn
      obtain ⟨fb, fof, fcap, hfv, -, -, hfb, hfc2⟩ := hFr.addr (by rw [numsI_len]; omega)
      injection hfv with hfv1 hfv2 hfv3
      subst hfv1
      have ef : wr.cell? ⟨fb, fof + k, none⟩ = some (.int .i64 (y.1 : Nat)) := by
        have := hfc2 k (by rw [numsI_len]; omega)
        rw [this, List.getD_eq_getElem?_getD]; unfold numsI; rw [List.getElem?_map, HYk.out]; rfl
      have hynI : (y.1 : Int) < (n : Int) := by omega
      have hlv := HOw.out.lt (List.length_map _).symm
      unfold maxLen at hlv
      obtain ⟨lo1, lo2, lo3, lo4⟩ := hlv
      have hML := HLk.out.len h1 h5
      have HFN := hidI (fold_next (n := n) (R := R) (y := y) hm M)
      have hmem : ap m y.1 ∈ R.map Prod.fst := by
        have := orbit_next h5 HO.out hx (z := y) (by rw [← HR.out]; exact List.mem_of_getElem? HYk.out) (List.mem_of_getElem? hm)
        rw [HR.out]; exact this
      obtain ⟨t, ht⟩ : ∃ t, t = ap m y.1 := ⟨_, rfl⟩
      rw [← ht] at eto htn hmem
      have HT := hidI ht
      have HMEM := hidI hmem
      clear hcu hm hum hfc2 hfv2 hfv3 ht
      go_wp2_with fail
      go_quiet (fail)
      obtain ⟨wd, hwd⟩ : ∃ wd, wd = wr.drewN nq := ⟨_, rfl⟩
      have hbd : Below wr.heap.size wr wd := by rw [hwd]; exact bdraw _ _
      have hsd : wd.heap.size = wr.heap.size := by rw [hwd]; rfl
      rw [← hwd]
      have hHW := hbd
      obtain ⟨bb, ob, uk, hbo, hbb, hck, huk⟩ := brings_at hBr HYk.out
      subst hbo
      have hidx := idx_tag HN.out HMEM.out
      obtain ⟨bb', ob', ut, hbo', _, hct, hut⟩ := brings_at hBr hidx
      injection hbo' with hbo'
      injection hbo' with hb1 hb2
      subst hb1; subst hb2
      have hil := (List.getElem?_eq_some_iff.1 hidx).1
      have HTP := hidI (HRO.out _ (List.mem_of_getElem? hidx)).2
      obtain ⟨_, ko, kc, hukv, _⟩ := id huk
      obtain ⟨_, to, tc, hutv, _⟩ := id hut
      subst hukv; subst hutv
      obtain ⟨i, hi⟩ : ∃ i, i = (numsI R).idxOf (t : Int) := ⟨_, rfl⟩
      rw [← hi] at hct hil
      have HI := hidI hi
      have ekd : wd.cell? ⟨bb, ob + k, none⟩ = some (.slice ko (up y.2).length kc) := (hbd.cell (p := ⟨bb, ob + k, none⟩) hbb).trans hck
      have etd : wd.cell? ⟨bb, ob + i, none⟩ = some (.slice to (up (tagO R t)).length tc) := (hbd.cell (p := ⟨bb, ob + i, none⟩) hbb).trans hct
      have emd : wd.cell? ⟨b, off + j, none⟩ = some (.slice (some ⟨bm, om, none⟩) n cm) := (hbd.cell (p := ⟨b, off + j, none⟩) hb).trans hcm'
      have HUKd := hidI (huk.below hbd); have HUTd := hidI (hut.below hbd); have HUMd := hidI (HUM.out.below hbd); have HFd := hidI (hFr.below hbd)
      have HOwd := hidI (HOw.out.below hbd); have HSpd := hidI (HSp.out.below hbd); have HBd := hidI (HB.out.trans (hbd.mono HB.out.size))
      have hilI : (i : Int) < (R.length : Int) := by omega
      rw [← hsd] at hb hbb hbm hfb lo2
      have hsw := HBd.out.size
      clear hMr hFr hBr huk hut hck hct hwd hsd hbd hHW HUM HOw HSp HB hcm ef eto hi hidx hmem
      go_wp2_with fail
      refine wp_region_held_drew (S := fun W => W.cell? ⟨bb, ob + k, none⟩ = some (.slice ko (up y.2).length kc) ∧ W.cell? ⟨bb, ob + i, none⟩ = some (.slice to (up (tagO R t)).length tc) ∧ W.cell? ⟨b, off + j, none⟩ = some (.slice (some ⟨bm, om, none⟩) n cm)) (by kernel_rfl) ⟨ekd, etd, emd⟩ (fun hS => ?_)
      refine takeH (i := 0) (v := ?_) 44 rfl rfl (by kernel_rfl) (by kernel_rfl) (by kernel_rfl) (fun _ _ _ h => h) (Or.inl ⟨by rfl, ?_⟩) (by assumption) ?_
      rotate_left
      · intro w hS; go_simp; try with_reducible rfl
      (try simp only [Act.put, List.setIfInBounds_toArray, List.set_cons_zero, List.set_cons_succ])
      refine takeH (i := 1) (v := ?_) 45 rfl rfl (by kernel_rfl) (by kernel_rfl) (by kernel_rfl) (fun _ _ _ h => h) (Or.inl ⟨by rfl, ?_⟩) (by assumption) ?_
      rotate_left
      · intro w hS; go_simp; try with_reducible rfl
      (try simp only [Act.put, List.setIfInBounds_toArray, List.set_cons_zero, List.set_cons_succ])
      refine takeH (i := 2) (v := ?_) 46 rfl rfl (by kernel_rfl) (by kernel_rfl) (by kernel_rfl) (fun _ _ _ h => h) (Or.inl ⟨by rfl, ?_⟩) (by assumption) ?_
      rotate_left
      · intro w hS; go_simp; try with_reducible rfl
      (try simp only [Act.put, List.setIfInBounds_toArray, List.set_cons_zero, List.set_cons_succ])
      refine takeH (i := 3) (v := ?_) 47 rfl rfl (by kernel_rfl) (by kernel_rfl) (by kernel_rfl) (fun _ _ _ h => h) (Or.inl ⟨by rfl, ?_⟩) (by assumption) ?_
      rotate_left
      · intro w hS; go_simp; try with_reducible rfl
      (try simp only [Act.put, List.setIfInBounds_toArray, List.set_cons_zero, List.set_cons_succ])
      refine takeH (i := 4) (v := ?_) 48 rfl rfl (by kernel_rfl) (by kernel_rfl) (by kernel_rfl) (fun _ _ _ h => h) (Or.inl ⟨by rfl, ?_⟩) (by assumption) ?_
      rotate_left
      · intro w hS; go_simp; try with_reducible rfl
      (try simp only [Act.put, List.setIfInBounds_toArray, List.set_cons_zero, List.set_cons_succ])
      refine takeH (i := 5) (v := ?_) 49 rfl rfl (by kernel_rfl) (by kernel_rfl) (by kernel_rfl) (fun _ _ _ h => h) (Or.inl ⟨by rfl, ?_⟩) (by assumption) ?_
      rotate_left
      · intro w hS; go_simp; try with_reducible rfl
      (try simp only [Act.put, List.setIfInBounds_toArray, List.set_cons_zero, List.set_cons_succ])
      refine takeH (i := 6) (v := ?_) 50 rfl rfl (by kernel_rfl) (by kernel_rfl) (by kernel_rfl) (fun _ _ _ h => h) (Or.inl ⟨by rfl, ?_⟩) (by assumption) ?_
      rotate_left
      · intro w hS; go_simp; try with_reducible rfl
      (try simp only [Act.put, List.setIfInBounds_toArray, List.set_cons_zero, List.set_cons_succ])
      refine takeH (i := 7) (v := ?_) 51 rfl rfl (by kernel_rfl) (by kernel_rfl) (by kernel_rfl) (fun _ _ _ h => h) (Or.inl ⟨by rfl, ?_⟩) (by assumption) ?_
      rotate_left
      · intro w hS; go_simp; try with_reducible rfl
      (try simp only [Act.put, List.setIfInBounds_toArray, List.set_cons_zero, List.set_cons_succ])
      refine takeH (i := 9) (v := ?_) 53 rfl rfl (by kernel_rfl) (by kernel_rfl) (by kernel_rfl) (fun _ _ _ h => h) (Or.inl ⟨by rfl, ?_⟩) (by assumption) ?_
      rotate_left
      · intro w hS; go_simp; try with_reducible rfl
      (try simp only [Act.put, List.setIfInBounds_toArray, List.set_cons_zero, List.set_cons_succ])
      refine takeH (i := 10) (v := ?_) 54 rfl rfl (by kernel_rfl) (by kernel_rfl) (by kernel_rfl) (fun _ _ _ h => h) (Or.inl ⟨by rfl, ?_⟩) (by assumption) ?_
      rotate_left
      · intro w hS; go_simp; try with_reducible rfl
      (try simp only [Act.put, List.setIfInBounds_toArray, List.set_cons_zero, List.set_cons_succ])
      refine takeH (i := 11) (v := ?_) 55 rfl rfl (by kernel_rfl) (by kernel_rfl) (by kernel_rfl) (fun _ _ _ h => h) (Or.inl ⟨by rfl, ?_⟩) (by assumption) ?_
      rotate_left
      · intro w hS; go_simp; try with_reducible rfl
      (try simp only [Act.put, List.setIfInBounds_toArray, List.set_cons_zero, List.set_cons_succ])
      refine wpAnyH_ready (rs := [8]) (by kernel_rfl) (by simp) ?_
      refine AllReadyH.cons rfl (fun K hK => ?_) AllReadyH.nil
      go_simp
      have hbd : Below wd.heap.size wd wd.drew := (Below.refl _ wd).drew
      refine (spec_PermThen n y.2 m _ _ wd.drew (HUKd.out.below hbd) (HUMd.out.below hbd) HYP.out HMP.out h1 h5).mono ?_; rintro e wa ⟨va, rfl, oa, ba⟩
      have HEA := hidI (El.ofOwn oa (up_I64 (isP_join HYP.out HMP.out) h5))
      obtain ⟨_, ja, ca, hva, _⟩ := id HEA.out.1
      subst hva
      have hba : Below wd.heap.size wd wa := bthen hbd ba
      have sa := hba.size
      refine hK.out _ _ ⟨(hba.cell (p := ⟨bb, ob + k, none⟩) hbb).trans ekd, (hba.cell (p := ⟨bb, ob + i, none⟩) hbb).trans etd, (hba.cell (p := ⟨b, off + j, none⟩) hb).trans emd⟩ (fun hS => ?_); clear hK K
      refine wpAnyH_ready (rs := [12]) (by kernel_rfl) (by simp) ?_
      refine AllReadyH.cons rfl (fun K hK => ?_) AllReadyH.nil
      go_simp
      have hFa := HFd.out.below hba
      refine (spec_l4Index (numsI R) (t : Int) _ wa hFa (numsI_mem.2 HMEM.out) (by rw [numsI_len]; omega)).mono ?_; rintro e w' ⟨rfl, rfl⟩
      rw [← HI.out]
      refine hK.out _ _ hS (fun hS => ?_); clear hK K
      refine takeH (i := 13) (v := ?_) 57 rfl rfl (by kernel_rfl) (by kernel_rfl) (by kernel_rfl) (fun _ _ _ h => h) (Or.inl ⟨by rfl, ?_⟩) (by assumption) ?_
      rotate_left
      · intro w hS; go_simp; try with_reducible rfl
      (try simp only [Act.put, List.setIfInBounds_toArray, List.set_cons_zero, List.set_cons_succ])
      refine takeH (i := 14) (v := ?_) 58 rfl rfl (by kernel_rfl) (by kernel_rfl) (by kernel_rfl) (fun _ _ _ h => h) (Or.inl ⟨by rfl, ?_⟩) (by assumption) ?_
      rotate_left
      · intro w hS; go_simp; try with_reducible rfl
      (try simp only [Act.put, List.setIfInBounds_toArray, List.set_cons_zero, List.set_cons_succ])
      refine wpAnyH_ready (rs := [15]) (by kernel_rfl) (by simp) ?_
      refine AllReadyH.cons rfl (fun K hK => ?_) AllReadyH.nil
      go_simp
      refine (spec_PermBack n (tagO R t) _ wa (HUTd.out.below hba) HTP.out h1 h5).mono ?_; rintro e wb ⟨vb, rfl, ob2, bb2⟩
      have HEB := hidI (El.ofOwn ob2 (up_I64 (isP_turn HTP.out) h5))
      obtain ⟨_, jb, cb, hvb, _⟩ := id HEB.out.1
      subst hvb
      have hbb2 := bthen hba bb2
      refine hK.out _ _ ⟨(hbb2.cell (p := ⟨bb, ob + k, none⟩) hbb).trans ekd, (hbb2.cell (p := ⟨bb, ob + i, none⟩) hbb).trans etd, (hbb2.cell (p := ⟨b, off + j, none⟩) hb).trans emd⟩ (fun hS => ?_); clear hK K
      refine wpAnyH_ready (rs := [16]) (by kernel_rfl) (by simp) ?_
      refine AllReadyH.cons rfl (fun K hK => ?_) AllReadyH.nil
      go_simp
      refine (spec_PermThen n (join y.2 m) (turn (tagO R t)) _ _ wb (HEA.out.1.below bb2) HEB.out.1 (isP_join HYP.out HMP.out) (isP_turn HTP.out) h1 h5).mono ?_; rintro e wc ⟨vc, rfl, oc, bc2⟩
      obtain ⟨Q, hQ⟩ : ∃ Q, Q = join (join y.2 m) (turn (tagO R t)) := ⟨_, rfl⟩
      have HQP := hidI (show IsP n Q by rw [hQ]; exact isP_join (isP_join HYP.out HMP.out) (isP_turn HTP.out))
      have HRX := hidI (show roundX R y m = Q by rw [hQ, HT.out]; rfl)
      rw [← hQ] at oc
      clear hQ
      have HEC := hidI (El.ofOwn oc (up_I64 HQP.out h5))
      obtain ⟨_, jc, cc, hvc, _⟩ := id HEC.out.1
      subst hvc
      have hbc2 := bthen hbb2 bc2
      refine hK.out _ _ ⟨(hbc2.cell (p := ⟨bb, ob + k, none⟩) hbb).trans ekd, (hbc2.cell (p := ⟨bb, ob + i, none⟩) hbb).trans etd, (hbc2.cell (p := ⟨b, off + j, none⟩) hb).trans emd⟩ (fun hS => ?_); clear hK K
      refine wpAnyH_ready (rs := [17]) (by kernel_rfl) (by simp) ?_
      refine AllReadyH.cons rfl (fun K hK => ?_) AllReadyH.nil
      go_simp
      refine hK.out _ _ hS (fun _ => ?_); clear hK K
      refine wpAnyH_done (by kernel_rfl) ?_ _
      have HSpc := hidI (HSpd.out.below hbc2); have HBc := hidI (HBd.out.trans (hbc2.mono hsw)); have HOwc := hidI (HOwd.out.below hbc2)
      clear hS oc bc2 hbc2 ob2 bb2 hbb2 hba ba oa hbd hFa ekd etd emd HEA HEB HOwd HSpd HBd HUKd HUTd HUMd HFd HTP HMP HYP
      go_wp2_with fail
      refine (spec_PermNone n wc h1 h5).mono ?_; rintro e wn ⟨vn, rfl, on, bn⟩
      have HEN := hidI (El.ofOwn on (up_I64 (isP_id n) h5))
      obtain ⟨_, jn, cn, hvn, _⟩ := id HEN.out.1
      subst hvn
      have HECn := hidI (HEC.out.below bn); have HSpn := hidI (HSpc.out.below bn); have HBn := hidI (bthen HBc.out bn); have HOwn := hidI (HOwc.out.below bn)
      clear on bn HEC HSpc HBc HOwc
      go_wp2_with fail
      refine (spec_l4Same (up Q) (up (idP n)) _ _ wn HECn.out.1 HEN.out.1).mono ?_; rintro e ws ⟨rfl, ns, hws⟩
      have bs : Below wn.heap.size wn ws := by rw [hws]; exact bdraw _ _
      have HECs := hidI (HECn.out.below bs); have HSps := hidI (HSpn.out.below bs); have HBs := hidI (bthen HBn.out bs); have HOws := hidI (HOwn.out.below bs)
      have hADD := addL_step (n := n) (M := M) (R := Q)
      have HLk2 := hidI (HLk.out.add HQP.out)
      have HFo2 := hidI (show ((ms.map (roundX R y)).drop (j + 1)).foldl (addL n) (addL n M Q) = lvTo n ms R (R.take (k + 1)) by rw [← HFo.out, HFN.out, HRX.out])
      clear hws bs HECn HSpn HBn HOwn HFN HRX HEN
      by_cases hid : Q = idP n
      · rw [decide_eq_true (show up Q = up (idP n) by rw [hid])]
        rw [hADD.1 (by rw [hid]; simp)] at HLk2 HFo2
        clear hADD hid
        go_wp2_with fail
        go_roundw
        case rel => exact ⟨j + 1, g, c, M, us, rfl, by go_num, by omega, HFo2, HLk2, HOws, HG, HSps, HBs⟩
        case measure => simp [intOf]; omega
      rw [decide_eq_false (fun e => hid (up_inj e))]
      go_wp2_with fail
      refine (spec_l4Has (M.map up) (up Q) _ _ ws HOws.out.reads HECs.out.1).mono ?_; rintro e wq ⟨rfl, nq2, hwq⟩
      have bq : Below ws.heap.size ws wq := by rw [hwq]; exact bdraw _ _
      have HECq := hidI (HECs.out.below bq); have HSpq := hidI (HSps.out.below bq); have HBq := hidI (bthen HBs.out bq); have HOwq := hidI (HOws.out.below bq)
      clear hwq bq HECs HSps HBs HOws
      by_cases hin : Q ∈ M
      · rw [decide_eq_true (mem_up.2 hin)]
        rw [hADD.1 (by simp [hin])] at HLk2 HFo2
        clear hADD hid hin
        go_wp2_with fail
        go_roundw
        case rel => exact ⟨j + 1, g, c, M, us, rfl, by go_num, by omega, HFo2, HLk2, HOwq, HG, HSpq, HBq⟩
        case measure => simp [intOf]; omega
      rw [decide_eq_false (fun e => hin (mem_up.1 e))]
      rw [hADD.2 (by simp [hin, hid])] at HLk2 HFo2
      have hsq := HBq.out.size
      have hpl : (M.map up).length = M.length := List.length_map _
      clear hADD hid hin
      go_wp2_with (at_builtin; refine wpList_pushR wq rfl _ _ rfl w.heap.size (.slice (some ⟨g, 0, none⟩) M.length c) us (M.map up) (.slice jc (up Q).length cc) (up Q) rfl rfl HOwq.out HECq.out (by omega) (by omega) ?_)
      intro g8 c8 w8 hg8 rp8 _ gr8 l8
      have gr8 : (wq.alloc (.cells #[.slice jc (up Q).length cc] 24)).grownBy w8 (some g) := gr8
      have ba := (Below.refl wq.heap.size wq).alloc (Nat.le_refl _) (.cells #[.slice jc (up Q).length cc] 24)
      have HSp8 := hidI ((HSpq.out.below ba).grown gr8 (fun k e => by injection e with e; subst e; exact HG.out))
      have HG8 := hidI (show g8 = w.heap.size ∨ w2.heap.size ≤ g8 by
        rcases l8 with e | e
        · have : g = g8 := by injection e
          rw [← this]; exact HG.out
        · have := HSpq.out.size; omega)
      have HB8 := hidI ((HBq.out.trans (ba.mono hsq)).grown gr8 (by simp; omega) (fun j e => (HOwq.out.1.lt j e).1))
      have HO8 := hidI (show RowsOwn w8 w.heap.size (.slice (some ⟨g8, 0, none⟩) (M ++ [Q]).length c8) (us ++ [.slice jc (up Q).length cc]) ((M ++ [Q]).map up) by
        rw [List.map_append, List.length_append]; exact rp8)
      clear rp8 gr8 l8 ba HOwq HSpq HBq hpl HECq
      go_wp2_with fail
      go_roundw
      case rel => exact ⟨j + 1, g8, c8, M ++ [Q], us ++ [.slice jc (up Q).length cc], by rw [List.length_append]; rfl, by go_num, by omega, HFo2, HLk2, HO8, HG8, HSp8, HB8⟩
      case measure => simp [intOf]; omega
end Go.Proofs.Ytmmggbcmailbiaa
