/- FixedSum of both. -/
import Derived.Test.YtmmggbcmailbiaaGV2
namespace Go.Proofs.Ytmmggbcmailbiaa
open Go.RowKit Grp

def fixTo (g : Pm) (j : Nat) : Nat := ((List.range j).filter (fun x => decide (ap g x = x))).length
theorem fixTo_succ (g : Pm) (j : Nat) : fixTo g (j + 1) = fixTo g j + if ap g j = j then 1 else 0 := by
  unfold fixTo
  rw [List.range_succ, List.filter_append, List.length_append]
  by_cases e : ap g j = j
  · rw [if_pos e]; simp [e]
  · rw [if_neg e]; simp [e]
theorem fixTo_le (g : Pm) (j : Nat) : fixTo g j ≤ j := by
  unfold fixTo
  have := List.length_filter_le (fun x => decide (ap g x = x)) (List.range j)
  rwa [List.length_range] at this
theorem sumOn_snoc {α : Type} (l : List α) (a : α) (f : α → Nat) : sumOn (l ++ [a]) f = sumOn l f + f a := by
  unfold sumOn; rw [List.map_append, List.sum_append]; simp

def fixOf (places : Int) (pss : List (List Int)) : Int := if mvalid places pss = true then (fixedSum places.toNat (groupL places.toNat (pss.map toP)) : Nat) else -1
theorem fixOf_valid {n : Nat} {qs : List Pm} (h1 : 1 ≤ n) (h5 : n ≤ 5) (h3 : qs.length ≤ 3) (hm : OkM n qs) : fixOf (n : Int) (qs.map up) = (fixedSum n (groupL n qs) : Nat) := by
  unfold fixOf
  rw [if_pos ((mvalid_iff _ _).2 ⟨n, qs, rfl, h1, h5, rfl, h3, hm⟩), toP_ups, Int.toNat_natCast]
theorem fixOf_no {places : Int} {pss : List (List Int)} (h : mvalid places pss = false) : fixOf places pss = -1 := by unfold fixOf; rw [h]; rfl

set_option maxRecDepth 100000 in
set_option maxHeartbeats 4000000 in
theorem impl_FixedSum (n : Nat) (ms : List Pm) (v : Value) (w : World) (h : IntSS w v (ms.map up)) (hm : OkM n ms) (h1 : 1 ≤ n) (h5 : n ≤ 5) (h3 : ms.length ≤ 3) :
    Calls Try.prog 58 #[.int .i64 (n : Int), v] w fun e w' => e = .returned (.int .i64 (fixedSum n (groupL n ms) : Nat)) ∧ Below w.heap.size w w' := by
  have HV := hidI (show mvalid (n : Int) (ms.map up) = true from (mvalid_iff _ _).2 ⟨n, ms, rfl, h1, h5, rfl, h3, hm⟩)
  have HM := hidI h; have HO := hidI hm
  obtain ⟨ao, cap, hv, _, _⟩ := ints_of_rows h
  subst hv
  clear h hm
  go_enter Try.func58, Try.ntmps58
  go_wp2_with fail
  refine (impl_MovesValid (n : Int) (ms.map up) _ _ HM.out).mono ?_; rintro e w' ⟨rfl, rfl⟩; rw [HV.out]
  go_wp2_with fail
  refine (impl_groupWords n ms _ _ HM.out HO.out h1 h5 h3).mono ?_; rintro e w2 ⟨gp, cp, gw, cw, us, xs, rfl, _, r1, r2, _, b⟩
  obtain ⟨G, hG⟩ : ∃ G, G = groupL n ms := ⟨_, rfl⟩
  have hPP : permsOf (groupW n ms) = G.map up := by rw [permsOf_keys, hG]; rfl
  have hGW : (groupW n ms).length = G.length := by rw [hG]; unfold groupL; rw [List.length_map]
  rw [hPP, hGW] at r1
  have HGP := hidI (show ∀ g ∈ G, IsP n g from fun g hg => (grp_groupL h5 HO.out).isP g (by rw [← hG]; exact hg))
  have hGl : G.length ≤ 120 := by
    rw [hG, ← size_eq h5 HO.out]; exact size_le h1 h5 HO.out
  have HG := hidI hG
  have HR := hidI r1.reads
  have HB2 := hidI b
  obtain ⟨bo, bc, hv2, hbc, hbm⟩ := ints_of_rows r1.reads
  injection hv2 with e1 e2 e3
  subst e1; subst e3
  unfold maxLen at hbm
  rw [hGW]
  clear r1 r2 b hG hPP hGW e2
  go_wp2_with fail
  go_loopw [5, 24] (fun v5 vk wr => ∃ (k c : Nat), v5 = .int .i64 (c : Nat) ∧ vk = .int .i64 (k : Nat) ∧ k ≤ G.length ∧ c ≤ 5 * k ∧ Hid (c = sumOn (G.take k) (fixes n)) ∧ Hid (w2 = wr)) (fun _ vk _ => G.length - (intOf vk).toNat)
  case atStart => exact ⟨0, 0, rfl, rfl, by omega, by omega, hidI (by simp [sumOn]), hidI rfl⟩
  case round =>
    obtain ⟨k, c, rfl, rfl, hk, hck, HC, HW⟩ := hrel
    obtain rfl := HW.out
    by_cases hlt : k < G.length
    rotate_left
    · have hkn : k = G.length := by omega
      have HEn := hidI (show c = fixedSum n G by rw [HC.out, hkn, List.take_length]; rfl)
      have hkI : ¬ (k : Int) < (G.length : Int) := by omega
      clear hkn
      go_wp2_with fail
      go_ret
      exact ⟨by rw [HEn.out, HG.out]; rfl, HB2.out⟩
    have hkI : (k : Int) < (G.length : Int) := by omega
    obtain ⟨g, hg⟩ : ∃ g, G[k]? = some g := ⟨_, List.getElem?_eq_getElem hlt⟩
    obtain ⟨b, off, ug, hbo, hb, hcg, hug⟩ := IntSS.at HR.out hg
    first | subst hbo | (injection hbo with hbo; injection hbo with hb1 hb2; subst hb1; subst hb2)
    have hgp := HGP.out g (List.mem_of_getElem? hg)
    obtain ⟨bg, og, cg, rfl, hg1, hg2, hbg, hcu⟩ := up_cells hug hgp h1
    unfold maxLen at hg2
    have Hcu := hidI hcu
    have HTk := hidI (show sumOn (G.take (k + 1)) (fixes n) = sumOn (G.take k) (fixes n) + fixTo g n by rw [take_snoc' hg, sumOn_snoc]; rfl)
    clear hcu hug hg
    try rw [Nat.zero_add] at hcg
    go_wp2_with fail
    go_loopw [5, 30] (fun v5 vj wr => ∃ (j d : Nat), v5 = .int .i64 (d : Nat) ∧ vj = .int .i64 (j : Nat) ∧ j ≤ n ∧ d ≤ 5 * k + j ∧ Hid (d = c + fixTo g j) ∧ Hid (w2 = wr)) (fun _ vj _ => n - (intOf vj).toNat)
    case atStart => exact ⟨0, c, rfl, rfl, by omega, by omega, hidI rfl, hidI rfl⟩
    case round =>
      obtain ⟨j, d, rfl, rfl, hj, hd, HD, HW2⟩ := hrel
      obtain rfl := HW2.out
      by_cases hjl : j < n
      rotate_left
      · have hjI : ¬ (j : Int) < (n : Int) := by omega
        have hjn : j = n := by omega
        have HC2 := hidI (show d = sumOn (G.take (k + 1)) (fixes n) by rw [HD.out, HTk.out, HC.out, hjn])
        clear hjn
        go_wp2_with fail
        go_roundw
        case rel => exact ⟨k + 1, d, rfl, by go_num, by omega, by omega, HC2, (by first | exact hidI rfl | exact hidI trivial)⟩
        case measure => simp [intOf]; omega
      have hjI : (j : Int) < (n : Int) := by omega
      have ex := Hcu.out j hjl
      have hst := fixTo_succ g j
      obtain ⟨t, ht⟩ : ∃ t, t = ap g j := ⟨_, rfl⟩
      rw [← ht] at ex hst
      clear ht
      by_cases he : t = j
      · have hbe : ((j : Int) == (t : Int)) = true := by simp; omega
        have HC2 := hidI (show d + 1 = c + fixTo g (j + 1) by rw [hst, if_pos he, HD.out]; omega)
        clear he hst
        go_wp2_with fail
        go_roundw
        case rel => exact ⟨j + 1, d + 1, by go_num, by go_num, by omega, by omega, HC2, (by first | exact hidI rfl | exact hidI trivial)⟩
        case measure => simp [intOf]; omega
      · have hbe : ((j : Int) == (t : Int)) = false := by simp; omega
        have HC2 := hidI (show d = c + fixTo g (j + 1) by rw [hst, if_neg he, HD.out]; omega)
        clear he hst
        go_wp2_with fail
        go_roundw
        case rel => exact ⟨j + 1, d, rfl, by go_num, by omega, by omega, HC2, (by first | exact hidI rfl | exact hidI trivial)⟩
        case measure => simp [intOf]; omega

set_option maxRecDepth 100000 in
set_option maxHeartbeats 4000000 in
theorem spec_FixedSum (n : Nat) (ms : List Pm) (v : Value) (w : World) (h : IntSS w v (ms.map up)) (hm : OkM n ms) (h1 : 1 ≤ n) (h5 : n ≤ 5) (h3 : ms.length ≤ 3) :
    Calls Try.prog 59 #[.int .i64 (n : Int), v] w fun e w' => e = .returned (.int .i64 (fixedSum n (groupL n ms) : Nat)) ∧ Below w.heap.size w w' := by
  have HV := hidI (show mvalid (n : Int) (ms.map up) = true from (mvalid_iff _ _).2 ⟨n, ms, rfl, h1, h5, rfl, h3, hm⟩)
  have HLN := hidI (ups_lens hm h5)
  have HM := hidI h; have HO := hidI hm
  obtain ⟨ao, cap, hv, _, _⟩ := ints_of_rows h
  subst hv
  clear h hm
  go_enter Try.func59, Try.ntmps59
  go_wp2_with fail
  refine (spec_MovesValid (n : Int) (ms.map up) _ _ HM.out HLN.out).mono ?_; rintro e w1 ⟨rfl, n1, hw1⟩; rw [HV.out]
  have hb1 : Below w.heap.size w w1 := by rw [hw1]; exact bdraw _ _
  have B1 := hidI hb1
  have M1 := hidI (HM.out.below hb1)
  clear hw1 hb1
  go_wp2_with fail
  refine (spec_GroupAll n ms _ _ M1.out HO.out h1 h5 h3).mono ?_; rintro e w2 ⟨v2, us, rfl, r2, b2⟩
  obtain ⟨G, hG⟩ : ∃ G, G = groupL n ms := ⟨_, rfl⟩
  have hPP : permsOf (groupW n ms) = G.map up := by rw [permsOf_keys, hG]; rfl
  rw [hPP] at r2
  have HGP := hidI (show ∀ g ∈ G, IsP n g from fun g hg => (grp_groupL h5 HO.out).isP g (by rw [← hG]; exact hg))
  have hGl : G.length ≤ 120 := by
    rw [hG, ← size_eq h5 HO.out]; exact size_le h1 h5 HO.out
  have HG := hidI hG
  have HR := hidI r2.reads
  have HB2 := hidI (bthen B1.out b2)
  obtain ⟨bo, bc, hv2, hbc, hbm⟩ := ints_of_rows r2.reads
  subst hv2
  unfold maxLen at hbm
  clear r2 b2 hG hPP
  go_wp2_with fail
  go_loopw [5, 7] (fun v5 vk wr => ∃ (k c : Nat), v5 = .int .i64 (c : Nat) ∧ vk = .int .i64 (k : Nat) ∧ k ≤ G.length ∧ c ≤ 5 * k ∧ Hid (c = sumOn (G.take k) (fixes n)) ∧ Hid (w2 = wr)) (fun _ vk _ => G.length - (intOf vk).toNat)
  case atStart => exact ⟨0, 0, rfl, rfl, by omega, by omega, hidI (by simp [sumOn]), hidI rfl⟩
  case round =>
    obtain ⟨k, c, rfl, rfl, hk, hck, HC, HW⟩ := hrel
    obtain rfl := HW.out
    by_cases hlt : k < G.length
    rotate_left
    · have hkn : k = G.length := by omega
      have HEn := hidI (show c = fixedSum n G by rw [HC.out, hkn, List.take_length]; rfl)
      have hkI : ¬ (k : Int) < (G.length : Int) := by omega
      clear hkn
      go_wp2_with fail
      go_ret
      exact ⟨by rw [HEn.out, HG.out]; rfl, HB2.out⟩
    have hkI : (k : Int) < (G.length : Int) := by omega
    obtain ⟨g, hg⟩ : ∃ g, G[k]? = some g := ⟨_, List.getElem?_eq_getElem hlt⟩
    obtain ⟨b, off, ug, hbo, hb, hcg, hug⟩ := IntSS.at HR.out hg
    first | subst hbo | (injection hbo with hbo; injection hbo with hb1 hb2; subst hb1; subst hb2)
    have hgp := HGP.out g (List.mem_of_getElem? hg)
    obtain ⟨bg, og, cg, rfl, hg1, hg2, hbg, hcu⟩ := up_cells hug hgp h1
    unfold maxLen at hg2
    have Hcu := hidI hcu
    have HTk := hidI (show sumOn (G.take (k + 1)) (fixes n) = sumOn (G.take k) (fixes n) + fixTo g n by rw [take_snoc' hg, sumOn_snoc]; rfl)
    clear hcu hug hg
    try rw [Nat.zero_add] at hcg
    go_wp2_with fail
    go_loopw [5, 8] (fun v5 vj wr => ∃ (j d : Nat), v5 = .int .i64 (d : Nat) ∧ vj = .int .i64 (j : Nat) ∧ j ≤ n ∧ d ≤ 5 * k + j ∧ Hid (d = c + fixTo g j) ∧ Hid (w2 = wr)) (fun _ vj _ => n - (intOf vj).toNat)
    case atStart => exact ⟨0, c, rfl, rfl, by omega, by omega, hidI rfl, hidI rfl⟩
    case round =>
      obtain ⟨j, d, rfl, rfl, hj, hd, HD, HW2⟩ := hrel
      obtain rfl := HW2.out
      by_cases hjl : j < n
      rotate_left
      · have hjI : ¬ (j : Int) < (n : Int) := by omega
        have hjn : j = n := by omega
        have HC2 := hidI (show d = sumOn (G.take (k + 1)) (fixes n) by rw [HD.out, HTk.out, HC.out, hjn])
        clear hjn
        go_wp2_with fail
        go_roundw
        case rel => exact ⟨k + 1, d, rfl, by go_num, by omega, by omega, HC2, (by first | exact hidI rfl | exact hidI trivial)⟩
        case measure => simp [intOf]; omega
      have hjI : (j : Int) < (n : Int) := by omega
      have ex := Hcu.out j hjl
      have hst := fixTo_succ g j
      obtain ⟨t, ht⟩ : ∃ t, t = ap g j := ⟨_, rfl⟩
      rw [← ht] at ex hst
      clear ht
      by_cases he : t = j
      · have hbe : ((t : Int) == (j : Int)) = true := by simp; omega
        have HC2 := hidI (show d + 1 = c + fixTo g (j + 1) by rw [hst, if_pos he, HD.out]; omega)
        clear he hst
        go_wp2_with fail
        go_roundw
        case rel => exact ⟨j + 1, d + 1, by go_num, by go_num, by omega, by omega, HC2, (by first | exact hidI rfl | exact hidI trivial)⟩
        case measure => simp [intOf]; omega
      · have hbe : ((t : Int) == (j : Int)) = false := by simp; omega
        have HC2 := hidI (show d = c + fixTo g (j + 1) by rw [hst, if_neg he, HD.out]; omega)
        clear he hst
        go_wp2_with fail
        go_roundw
        case rel => exact ⟨j + 1, d, rfl, by go_num, by omega, by omega, HC2, (by first | exact hidI rfl | exact hidI trivial)⟩
        case measure => simp [intOf]; omega

theorem impl_FixedSum_no (places : Int) (pss : List (List Int)) (v : Value) (w : World) (h : IntSS w v pss) (hm : mvalid places pss = false) :
    Calls Try.prog 58 #[.int .i64 places, v] w fun e w' => e = .returned (.int .i64 (-1)) ∧ w = w' := by
  have HM := hidI h; have HO := hidI hm
  obtain ⟨ao, cap, hv, _, _⟩ := id h
  subst hv
  clear h hm
  go_enter Try.func58, Try.ntmps58
  go_wp2_with fail
  refine (impl_MovesValid places pss _ _ HM.out).mono ?_; rintro e w' ⟨rfl, rfl⟩; rw [HO.out]
  go_wp2_with fail
  go_ret
  exact ⟨rfl, rfl⟩

theorem spec_FixedSum_no (places : Int) (pss : List (List Int)) (v : Value) (w : World) (h : IntSS w v pss) (hm : mvalid places pss = false) (hl : ∀ m ∈ pss, m.length ≤ 4000000) :
    Calls Try.prog 59 #[.int .i64 places, v] w fun e w' => e = .returned (.int .i64 (-1)) ∧ Below w.heap.size w w' := by
  have HM := hidI h; have HO := hidI hm; have HL := hidI hl
  obtain ⟨ao, cap, hv, _, _⟩ := id h
  subst hv
  clear h hm hl
  go_enter Try.func59, Try.ntmps59
  go_wp2_with fail
  refine (spec_MovesValid places pss _ _ HM.out HL.out).mono ?_; rintro e w1 ⟨rfl, n1, hw1⟩; rw [HO.out]
  have B1 := hidI (show Below w.heap.size w w1 by rw [hw1]; exact bdraw _ _)
  clear hw1
  go_wp2_with fail
  go_ret
  exact ⟨rfl, B1.out⟩

theorem impl_FixedSumA (places : Int) (pss : List (List Int)) (v : Value) (w : World) (h : IntSS w v pss) :
    Calls Try.prog 58 #[.int .i64 places, v] w fun e w' => e = .returned (.int .i64 (fixOf places pss)) ∧ Below w.heap.size w w' := by
  cases hm : mvalid places pss
  · rw [fixOf_no hm]
    refine (impl_FixedSum_no places pss v w h hm).mono ?_
    rintro e w' ⟨rfl, rfl⟩
    exact ⟨rfl, Below.refl _ _⟩
  · obtain ⟨n, qs, rfl, h1, h5, rfl, h3, hok⟩ := (mvalid_iff _ _).1 hm
    rw [fixOf_valid h1 h5 h3 hok]
    exact impl_FixedSum n qs v w h hok h1 h5 h3

theorem spec_FixedSumA (places : Int) (pss : List (List Int)) (v : Value) (w : World) (h : IntSS w v pss) (hl : ∀ m ∈ pss, m.length ≤ 4000000) :
    Calls Try.prog 59 #[.int .i64 places, v] w fun e w' => e = .returned (.int .i64 (fixOf places pss)) ∧ Below w.heap.size w w' := by
  cases hm : mvalid places pss
  · rw [fixOf_no hm]
    exact spec_FixedSum_no places pss v w h hm hl
  · obtain ⟨n, qs, rfl, h1, h5, rfl, h3, hok⟩ := (mvalid_iff _ _).1 hm
    rw [fixOf_valid h1 h5 h3 hok]
    exact spec_FixedSum n qs v w h hok h1 h5 h3
end Go.Proofs.Ytmmggbcmailbiaa
