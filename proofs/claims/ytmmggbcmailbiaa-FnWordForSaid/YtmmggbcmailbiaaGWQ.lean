/- WordPerm of the reference. -/
import Derived.Test.YtmmggbcmailbiaaGWP
namespace Go.Proofs.Ytmmggbcmailbiaa
open Go.RowKit Grp

theorem spec_made (w : World) : w.heap.size < (w.alloc (.cells #[] 3)).heap.size := by simp

set_option maxRecDepth 100000 in
set_option maxHeartbeats 4000000 in
theorem spec_WordPerm (n : Nat) (ms : List Pm) (zs : List Int) (v u : Value) (w : World) (h : IntSS w v (ms.map up)) (hu : IntS w u zs) (hm : OkM n ms) (h1 : 1 ≤ n) (h5 : n ≤ 5) (h3 : ms.length ≤ 3) :
    Calls Try.prog 51 #[.int .i64 (n : Int), v, u] w fun e w' => GivesL w w' (wpOf n (ms.map up) zs) e := by
  have HV := hidI (show mvalid (n : Int) (ms.map up) = true from (mvalid_iff _ _).2 ⟨n, ms, rfl, h1, h5, rfl, h3, hm⟩)
  have HLN := hidI (ups_lens hm h5)
  have HM := hidI h; have HO := hidI hm; have HU := hidI hu
  obtain ⟨ao, cap, hv, hcap, hmax⟩ := ints_of_rows h
  subst hv
  unfold maxLen at hmax
  obtain ⟨_, uo, uc, hu1, hul, hum, _⟩ := id hu
  subst hu1
  unfold maxLen at hum
  clear h hm hu
  go_enter Try.func51, Try.ntmps51
  go_wp2_with fail
  refine (spec_PermNone n _ h1 h5).mono ?_; rintro e w1 ⟨v0, rfl, o1, b1⟩
  obtain ⟨_, no, nc, hv0, _⟩ := id (El.ofOwn o1 (up_I64 (isP_id n) h5)).1
  subst hv0
  have O1 := hidI (own_base o1 (Nat.le_refl _)); have B1 := hidI b1
  clear o1 b1
  go_wp2_with fail
  go_loopw [7, 8] (fun v7 vk wr => ∃ (k : Nat) (q : Pm) (qo : Option Addr) (qc : Nat), v7 = .slice qo (up q).length qc ∧ vk = .int .i64 (k : Nat) ∧ k ≤ zs.length ∧ Hid (∀ z ∈ zs.take k, inP (ms.length : Int) z = true) ∧ Hid (q = wordP n ms ((zs.take k).map Int.toNat)) ∧
    Hid (wr.ownsRow w.heap.size 3 1 (.slice qo (up q).length qc) (up q).length ((up q).map (Value.int .i64))) ∧ Hid (Below w.heap.size w wr)) (fun _ vk _ => zs.length - (intOf vk).toNat)
  case atStart => exact ⟨0, idP n, no, nc, rfl, rfl, by omega, hidI (by simp), hidI rfl, O1, B1⟩
  case round =>
    clear O1 B1
    obtain ⟨k, q, qo, qc, rfl, rfl, hk, HIn, HQ, HOw, HB⟩ := hrel
    have HQP := hidI (show IsP n q by rw [HQ.out]; exact (wordP_isP (wordsIn_nat HIn.out)).isP HO.out)
    have hsw := HB.out.size
    by_cases hlt : k < zs.length
    rotate_left
    · have hkn : k = zs.length := by omega
      have HEn := hidI (show wpOf n (ms.map up) zs = up q by
        have hi := HIn.out
        rw [hkn] at hi
        rw [wpOf_valid h1 h5 h3 HO.out (wordsIn_take hi), HQ.out, hkn, List.take_length])
      have hkI : ¬ (k : Int) < (zs.length : Int) := by omega
      clear hkn
      go_wp2_with fail
      refine (spec_MovesValid (n : Int) (ms.map up) _ wr (HM.out.below HB.out) HLN.out).mono ?_; rintro e w2 ⟨rfl, n2, hw2⟩; rw [HV.out]
      have hb2 : Below wr.heap.size wr w2 := by rw [hw2]; exact bdraw _ _
      have HB2 := hidI (bthen HB.out hb2); have HOw2 := hidI (own_below HOw.out hb2)
      clear hw2 hb2
      go_wp2_with fail
      go_ret
      rw [HEn.out]
      exact ⟨_, rfl, HOw2.out, HB2.out⟩
    have hkI : (k : Int) < (zs.length : Int) := by omega
    obtain ⟨z, hz⟩ : ∃ z, zs[k]? = some z := ⟨_, List.getElem?_eq_getElem hlt⟩
    obtain ⟨bz, oz, cz, hzv, -, -, hbz, hcz⟩ := HU.out.addr (show 1 ≤ zs.length by omega)
    injection hzv with hz1 hz2 hz3
    subst hz1
    have ez : wr.cell? ⟨bz, oz + k, none⟩ = some (.int .i64 z) := by
      have := hcz k hlt
      rw [List.getD_eq_getElem?_getD, hz] at this
      exact (HB.out.cell (p := ⟨bz, oz + k, none⟩) hbz).trans this
    have HZ := hidI hz
    clear hz hz2 hz3 hcz
    cases hin : inP (ms.length : Int) z
    · have HEn := hidI (wpOf_out (n := n) (ms := ms) HZ.out hin)
      have hib : inB z 0 ((ms.length : Int) - 1) = false := by rw [inP_inB _ _ (by omega)]; exact hin
      clear hin
      go_wp2_with fail
      refine (spec_l1InQ _ _ _ _ _ hib).mono ?_; rintro e w' ⟨rfl, rfl⟩
      go_wp2_with fail
      go_ret
      rw [HEn.out]
      exact ⟨_, rfl, own_made rfl hsw _, HB.out.trans ((Below.refl _ _).alloc hsw _)⟩
    have hib : inB z 0 ((ms.length : Int) - 1) = true := by rw [inP_inB _ _ (by omega)]; exact hin
    obtain ⟨j, rfl, hjl⟩ := inP_nat hin
    have hjI : (j : Int) < (ms.length : Int) := by omega
    obtain ⟨m, hm⟩ : ∃ m, ms[j]? = some m := ⟨_, List.getElem?_eq_getElem hjl⟩
    have HMP := hidI (HO.out m (List.mem_of_getElem? hm))
    obtain ⟨b, off, um, hao, hb, hcm, hum2⟩ := IntSS.at HM.out hm
    subst hao
    have HIn2 := hidI (show ∀ z ∈ zs.take (k + 1), inP (ms.length : Int) z = true from fun z hz => by
      rw [take_snoc' HZ.out, List.mem_append] at hz
      rcases hz with hz | hz
      · exact HIn.out z hz
      · rw [List.mem_singleton.1 hz]; exact decide_eq_true (by omega))
    have HQ2 := hidI (show join q m = wordP n ms ((zs.take (k + 1)).map Int.toNat) by
      rw [take_snoc' HZ.out, List.map_append]
      show _ = wordP n ms (_ ++ [j])
      rw [wordP_snoc, ← HQ.out, List.getD_eq_getElem?_getD, hm]; rfl)
    have HCM := hidI hcm; have HUM2 := hidI hum2
    clear hm hcm hum2 hin
    go_wp2_with fail
    refine (spec_l1InQ _ _ _ _ _ hib).mono ?_; rintro e w' ⟨rfl, rfl⟩
    go_wp2_with fail
    refine (spec_MovesValid (n : Int) (ms.map up) _ wr (HM.out.below HB.out) HLN.out).mono ?_; rintro e w2 ⟨rfl, n2, hw2⟩; rw [HV.out]
    have hb2 : Below wr.heap.size wr w2 := by rw [hw2]; exact bdraw _ _
    have HB2 := hidI (bthen HB.out hb2); have HOw2 := hidI (own_below HOw.out hb2)
    have hsz2 := hb2.size
    have ez2 : w2.cell? ⟨bz, oz + k, none⟩ = some (.int .i64 (j : Int)) := (hb2.cell (p := ⟨bz, oz + k, none⟩) (by show bz < _; omega)).trans ez
    have ecm := (HB2.out.cell (p := ⟨b, off + j, none⟩) hb).trans HCM.out
    have HUM := hidI (HUM2.out.below HB2.out)
    obtain ⟨_, mo, mc, humv, _⟩ := id HUM.out
    subst humv
    have HLf := hidI (IntS.ofOwn HOw2.out (up_I64 HQP.out h5)).2
    have hsw2 := HB2.out.size
    clear hw2 hb2 ez
    go_wp2_with fail
    refine (spec_PermThen n q m _ _ w2 HLf.out HUM.out HQP.out HMP.out h1 h5).mono ?_; rintro e w5 ⟨v5, rfl, o5, b5⟩
    obtain ⟨_, q5, c5, hv5, _⟩ := id (El.ofOwn o5 (up_I64 (isP_join HQP.out HMP.out) h5)).1
    subst hv5
    have O5 := hidI (own_base o5 hsw2); have B5 := hidI (bthen HB2.out b5)
    clear o5 b5
    go_wp2_with fail
    go_roundw
    case rel => exact ⟨k + 1, join q m, q5, c5, rfl, by go_num, by omega, HIn2, HQ2, O5, B5⟩
    case measure => simp [intOf]; omega

/-- The reference's PermNone hands back new memory, whatever the number. -/
theorem spec_PermNone_any (places : Int) (w : World) :
    Calls Try.prog 65 #[.int .i64 places] w fun e w' => ∃ zs : List Int, (∀ z ∈ zs, I64 z) ∧ GivesL w w' zs e := by
  by_cases hp : places < 1 ∨ 5 < places
  · exact (spec_PermNone_out places w hp).mono fun e w' h => ⟨[], by simp, h⟩
  · obtain ⟨n, rfl⟩ := Int.eq_ofNat_of_zero_le (show 0 ≤ places by omega)
    exact (spec_PermNone n w (by omega) (by omega)).mono fun e w' h => ⟨_, up_I64 (isP_id n) (by omega), h⟩

set_option maxRecDepth 100000 in
set_option maxHeartbeats 4000000 in
theorem spec_WordPerm_no (places : Int) (pss : List (List Int)) (zs : List Int) (v u : Value) (w : World) (h : IntSS w v pss) (hu : IntS w u zs) (hm : mvalid places pss = false) (hl : ∀ m ∈ pss, m.length ≤ 4000000) (hpl : pss.length ≤ 4000000) :
    Calls Try.prog 51 #[.int .i64 places, v, u] w fun e w' => GivesL w w' [] e := by
  have HM := hidI h; have HO := hidI hm; have HU := hidI hu; have HL := hidI hl
  obtain ⟨ao, cap, hv, hcap, hmax, _⟩ := id h
  subst hv
  unfold maxLen at hmax
  obtain ⟨_, uo, uc, hu1, hul, hum, _⟩ := id hu
  subst hu1
  unfold maxLen at hum
  clear h hm hu hl
  go_enter Try.func51, Try.ntmps51
  go_wp2_with fail
  refine (spec_PermNone_any places w).mono ?_; rintro e w1 ⟨ys, hys, v0, rfl, o1, b1⟩
  obtain ⟨_, no, nc, hv0, _⟩ := id (IntS.ofOwn o1 hys).2
  subst hv0
  have B1 := hidI b1
  have hsw := b1.size
  clear o1 b1 hys
  go_wp2_with fail
  refine wp_loop_rounds 1 ?_
  rw [rounds_succ]
  by_cases hz0 : zs.length = 0
  · have hkI : ¬ (0 : Int) < (zs.length : Int) := by omega
    go_wp2_with fail
    refine (spec_MovesValid places pss _ w1 (HM.out.below B1.out) HL.out).mono ?_; rintro e w2 ⟨rfl, n2, hw2⟩; rw [HO.out]
    have HB2 := hidI (show Below w.heap.size w w2 by rw [hw2]; exact bthen B1.out (bdraw _ _))
    have hs2 := HB2.out.size
    clear hw2
    go_wp2_with fail
    go_ret
    exact ⟨_, rfl, own_made rfl hs2 _, HB2.out.trans ((Below.refl _ _).alloc hs2 _)⟩
  have hkI : (0 : Int) < (zs.length : Int) := by omega
  obtain ⟨z, hz⟩ : ∃ z, zs[0]? = some z := ⟨_, List.getElem?_eq_getElem (by omega)⟩
  obtain ⟨bz, oz, cz, hzv, -, -, hbz, hcz⟩ := HU.out.addr (show 1 ≤ zs.length by omega)
  injection hzv with hz1 hz2 hz3
  subst hz1
  have ez : w1.cell? ⟨bz, oz, none⟩ = some (.int .i64 z) := by
    have := hcz 0 (by omega)
    rw [List.getD_eq_getElem?_getD, hz] at this
    exact (B1.out.cell (p := ⟨bz, oz, none⟩) hbz).trans this
  clear hz hz2 hz3 hcz
  cases hin : inP (pss.length : Int) z
  · have hib : inB z 0 ((pss.length : Int) - 1) = false := by rw [inP_inB _ _ (by omega)]; exact hin
    clear hin
    go_wp2_with fail
    refine (spec_l1InQ _ _ _ _ _ hib).mono ?_; rintro e w' ⟨rfl, rfl⟩
    go_wp2_with fail
    go_ret
    exact ⟨_, rfl, own_made rfl hsw _, B1.out.trans ((Below.refl _ _).alloc hsw _)⟩
  have hib : inB z 0 ((pss.length : Int) - 1) = true := by rw [inP_inB _ _ (by omega)]; exact hin
  clear hin
  go_wp2_with fail
  refine (spec_l1InQ _ _ _ _ _ hib).mono ?_; rintro e w' ⟨rfl, rfl⟩
  go_wp2_with fail
  refine (spec_MovesValid places pss _ w1 (HM.out.below B1.out) HL.out).mono ?_; rintro e w2 ⟨rfl, n2, hw2⟩; rw [HO.out]
  have HB2 := hidI (show Below w.heap.size w w2 by rw [hw2]; exact bthen B1.out (bdraw _ _))
  have hs2 := HB2.out.size
  clear hw2
  go_wp2_with fail
  go_ret
  exact ⟨_, rfl, own_made rfl hs2 _, HB2.out.trans ((Below.refl _ _).alloc hs2 _)⟩

theorem spec_WordPermA (places : Int) (pss : List (List Int)) (zs : List Int) (v u : Value) (w : World) (h : IntSS w v pss) (hu : IntS w u zs) (hl : ∀ m ∈ pss, m.length ≤ 4000000) (hpl : pss.length ≤ 4000000) :
    Calls Try.prog 51 #[.int .i64 places, v, u] w fun e w' => GivesL w w' (wpOf places pss zs) e := by
  cases hm : mvalid places pss
  · rw [wpOf_no zs hm]
    exact spec_WordPerm_no places pss zs v u w h hu hm hl hpl
  · obtain ⟨n, qs, rfl, h1, h5, rfl, h3, hok⟩ := (mvalid_iff _ _).1 hm
    exact spec_WordPerm n qs zs v u w h hu hok h1 h5 h3
end Go.Proofs.Ytmmggbcmailbiaa
