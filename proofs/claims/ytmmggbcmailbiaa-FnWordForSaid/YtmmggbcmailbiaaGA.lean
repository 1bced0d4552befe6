/- GroupAll of the program and of the reference. -/
import Derived.Test.YtmmggbcmailbiaaGW
import Derived.Test.YtmmggbcmailbiaaGS
import Derived.Deep.RegionHeld3
namespace Go.Proofs.Ytmmggbcmailbiaa
open Go.RowKit Grp

/-- A row of rows is handed back, in new memory. -/
def GivesR (w w' : World) (pss : List (List Int)) (e : Ending) : Prop := ∃ v us, e = .returned v ∧ RowsOwn w' w.heap.size v us pss ∧ Below w.heap.size w w'

theorem RowsOwn.nil (w : World) (base : Nat) : RowsOwn w base (.slice none 0 0) [] [] :=
  ⟨⟨rfl, .inl ⟨rfl, rfl⟩⟩, fun j u p hu _ => by simp at hu⟩

theorem RowsOwn.made (w : World) : RowsOwn (w.alloc (.cells #[] 24)) w.heap.size (.slice (some ⟨w.heap.size, 0, none⟩) 0 0) [] [] :=
  ⟨own_made rfl (Nat.le_refl _) _, fun j u p hu _ => by simp at hu⟩

theorem ints_of_rows {w : World} {v : Value} {ms : List Pm} (h : IntSS w v (ms.map up)) : ∃ ao cap, v = .slice ao ms.length cap ∧ ms.length ≤ cap ∧ cap ≤ maxLen := by
  obtain ⟨ao, cap, e, a, b, _⟩ := h; rw [List.length_map] at *; exact ⟨ao, cap, e, a, b⟩

theorem impl_GroupAll (n : Nat) (ms : List Pm) (v : Value) (w : World) (h : IntSS w v (ms.map up)) (hm : OkM n ms) (h1 : 1 ≤ n) (h5 : n ≤ 5) (h3 : ms.length ≤ 3) :
    Calls Try.prog 28 #[.int .i64 (n : Int), v] w fun e w' => GivesR w w' (permsOf (groupW n ms)) e := by
  have HV := hidI (show mvalid (n : Int) (ms.map up) = true from (mvalid_iff _ _).2 ⟨n, ms, rfl, h1, h5, rfl, h3, hm⟩)
  have HM := hidI h; have HO := hidI hm
  obtain ⟨ao, cap, hv, _, _⟩ := ints_of_rows h
  subst hv
  clear h hm
  go_enter Try.func28, Try.ntmps28
  go_wp2_with fail
  refine (impl_MovesValid (n : Int) (ms.map up) _ _ HM.out).mono ?_; rintro e w' ⟨rfl, rfl⟩; rw [HV.out]
  go_wp2_with fail
  refine (impl_groupWords n ms _ _ HM.out HO.out h1 h5 h3).mono ?_; rintro e w' ⟨gp, cp, gw, cw, us, xs, rfl, _, r1, r2, _, b⟩
  have R := hidI r1; have B := hidI b
  clear r1 r2 b
  go_wp2_with fail
  go_ret
  exact ⟨_, us, rfl, R.out, B.out⟩

theorem impl_GroupAll_no (places : Int) (pss : List (List Int)) (v : Value) (w : World) (h : IntSS w v pss) (hm : mvalid places pss = false) :
    Calls Try.prog 28 #[.int .i64 places, v] w fun e w' => e = .returned (.slice none 0 0) ∧ w = w' := by
  have HM := hidI h; have HO := hidI hm
  obtain ⟨ao, cap, hv, _, _⟩ := id h
  subst hv
  clear h hm
  go_enter Try.func28, Try.ntmps28
  go_wp2_with fail
  refine (impl_MovesValid places pss _ _ HM.out).mono ?_; rintro e w' ⟨rfl, rfl⟩; rw [HO.out]
  go_wp2_with fail
  go_ret
  exact ⟨rfl, rfl⟩

theorem spec_GroupAll_no (places : Int) (pss : List (List Int)) (v : Value) (w : World) (h : IntSS w v pss) (hm : mvalid places pss = false) (hl : ∀ m ∈ pss, m.length ≤ 4000000) :
    Calls Try.prog 48 #[.int .i64 places, v] w fun e w' => GivesR w w' [] e := by
  have HM := hidI h; have HO := hidI hm; have HL := hidI hl
  obtain ⟨ao, cap, hv, _, _⟩ := id h
  subst hv
  clear h hm hl
  go_enter Try.func48, Try.ntmps48
  go_wp2_with fail
  refine (spec_MovesValid places pss _ _ (HM.out.below ((Below.refl _ _).alloc (Nat.le_refl _) _)) HL.out).mono ?_; rintro e w' ⟨rfl, n, hw⟩; rw [HO.out]
  have HB := hidI (show Below w.heap.size w w' by rw [hw]; exact bthen ((Below.refl _ _).alloc (Nat.le_refl _) _) (bdraw _ _))
  have HR := hidI (show RowsOwn w' w.heap.size (.slice (some ⟨w.heap.size, 0, none⟩) 0 0) [] [] by rw [hw]; exact (RowsOwn.made w).below (bdraw _ _))
  clear hw
  go_wp2_with fail
  go_ret
  exact ⟨_, [], rfl, HR.out, HB.out⟩

theorem ups_lens {n : Nat} {ms : List Pm} (hm : OkM n ms) (h5 : n ≤ 5) : ∀ m ∈ ms.map up, m.length ≤ 4000000 := by
  intro m h
  obtain ⟨q, hq, rfl⟩ := List.mem_map.1 h
  rw [up_len, (hm q hq).len]; omega

theorem mem_permsOf {L : PW} {p : Pm} : up p ∈ permsOf L ↔ p ∈ L.map Prod.fst := by
  rw [permsOf_keys, List.mem_map]
  constructor
  · rintro ⟨q, hq, e⟩; rw [← up_inj e]; exact hq
  · intro h; exact ⟨p, h, rfl⟩

set_option maxRecDepth 100000 in
set_option maxHeartbeats 4000000 in
theorem spec_GroupAll (n : Nat) (ms : List Pm) (v : Value) (w : World) (h : IntSS w v (ms.map up)) (hm : OkM n ms) (h1 : 1 ≤ n) (h5 : n ≤ 5) (h3 : ms.length ≤ 3) :
    Calls Try.prog 48 #[.int .i64 (n : Int), v] w fun e w' => GivesR w w' (permsOf (groupW n ms)) e := by
  have HV := hidI (show mvalid (n : Int) (ms.map up) = true from (mvalid_iff _ _).2 ⟨n, ms, rfl, h1, h5, rfl, h3, hm⟩)
  have HLN := hidI (ups_lens hm h5)
  have HM := hidI h; have HO := hidI hm
  obtain ⟨ao, cap, hv, hcap, hmax⟩ := ints_of_rows h
  subst hv
  unfold maxLen at hmax
  clear h hm
  go_enter Try.func48, Try.ntmps48
  go_wp2_with fail
  refine (spec_MovesValid (n : Int) (ms.map up) _ _ (HM.out.below ((Below.refl _ _).alloc (Nat.le_refl _) _)) HLN.out).mono ?_; rintro e w1 ⟨rfl, n1, hw1⟩; rw [HV.out]
  have B1 := hidI (show Below w.heap.size w w1 by rw [hw1]; exact bthen ((Below.refl _ _).alloc (Nat.le_refl _) _) (bdraw _ _))
  have R1 := hidI (show RowsOwn w1 w.heap.size (.slice (some ⟨w.heap.size, 0, none⟩) 0 0) [] [] by rw [hw1]; exact (RowsOwn.made w).below (bdraw _ _))
  clear hw1
  go_wp2_with fail
  refine (spec_PermNone n w1 h1 h5).mono ?_; rintro e w2 ⟨v0, rfl, o2, b2⟩
  have E0 := hidI (El.ofOwn o2 (up_I64 (isP_id n) h5))
  have hs1 := B1.out.size
  have B2 := hidI (bthen B1.out b2)
  have R2 := hidI (R1.out.below b2)
  obtain ⟨_, no, nc, hv0, _⟩ := id E0.out.1
  subst hv0
  have hs2 := b2.size
  clear o2 b2
  go_wp2_with (at_builtin; refine wpList_pushR w2 rfl _ _ rfl w.heap.size (.slice (some ⟨w.heap.size, 0, none⟩) 0 0) [] [] (.slice no (up (idP n)).length nc) (up (idP n)) rfl rfl R2.out E0.out (by simp) (by omega) ?_)
  intro g3 c3 w3 hg3 r3 hb3 _ _
  have R3 := hidI r3; have B3 := hidI (hb3 _ B2.out)
  clear r3 hb3 E0 B1 R1 R2 B2
  go_wp2_with fail
  go_loopw [5, 6] (fun vo va wr => ∃ (k : Nat) (L : PW) (g c : Nat) (us : List Value), vo = .slice (some ⟨g, 0, none⟩) L.length c ∧ va = .int .i64 (k : Int) ∧ k ≤ L.length ∧ L.length ≤ 3125 ∧
    Hid (RowsOwn wr w.heap.size (.slice (some ⟨g, 0, none⟩) L.length c) us (permsOf L)) ∧ Hid (LOk n ms k L) ∧ Hid (bfs (nextW ms) (fuelW - k) k L = groupW n ms) ∧ Hid (Below w.heap.size w wr)) (fun _ va _ => 4000 - (intOf va).toNat)
  case atStart => exact ⟨0, [(idP n, [])], _, _, _, rfl, rfl, by simp, by simp, R3, hidI (lok_start n ms), hidI rfl, B3⟩
  case round =>
    clear R3 B3
    obtain ⟨k, L, g, c, us, rfl, rfl, hk, hL, RP, HL, HE, HB⟩ := hrel
    by_cases hlt : k < L.length
    rotate_left
    · have hEnd := hidI (show L = groupW n ms by rw [← HE.out]; exact (bfs_end (by omega)).symm)
      have hkI : ¬ (k : Int) < (L.length : Int) := by omega
      go_wp2_with fail
      go_ret
      rw [← hEnd.out]
      exact ⟨_, us, rfl, RP.out, HB.out⟩
    obtain ⟨x, hx⟩ : ∃ x, L[k]? = some x := ⟨_, List.getElem?_eq_getElem hlt⟩
    have hkI : (k : Int) < (L.length : Int) := by omega
    have HX := hidI hx
    have hxm := List.mem_of_getElem? hx
    have HG := hidI (HL.out.gen x hxm); have HWd := hidI (HL.out.word x hxm); have hwl := HL.out.len x hxm
    have HNX := hidI (bfs_next (next := nextW ms) hx (show k < fuelW by unfold fuelW; omega))
    obtain ⟨wo, rfl⟩ : ∃ wo : World, wo = wr := ⟨_, rfl⟩
    clear hx hxm
    go_wp2_with fail
    go_loopw [5, 7] (fun vo vi wr => ∃ (j : Nat) (M : PW) (g c : Nat) (us : List Value), vo = .slice (some ⟨g, 0, none⟩) M.length c ∧ vi = .int .i64 (j : Int) ∧ j ≤ ms.length ∧ k < M.length ∧ M.length ≤ 3125 ∧
      Hid (RowsOwn wr w.heap.size (.slice (some ⟨g, 0, none⟩) M.length c) us (permsOf M)) ∧ Hid (LOk n ms (k + 1) M) ∧ Hid (M[k]? = some x) ∧ Hid (adds M ((nextW ms x).drop j) = adds L (nextW ms x)) ∧ Hid (Below w.heap.size w wr)) (fun _ vi _ => ms.length - (intOf vi).toNat)
    case atStart => exact ⟨0, L, g, c, us, rfl, rfl, by omega, hlt, hL, RP, hidI HL.out.more, HX, hidI rfl, HB⟩
    case round =>
      clear RP HL HB
      obtain ⟨j, M, g, c, us, rfl, rfl, hj, hkM, hML, RP, HL, HXM, HA, HB⟩ := hrel
      by_cases hjl : j < ms.length
      rotate_left
      · have hEnd := hidI (show M = adds L (nextW ms x) by rw [← HA.out]; exact (adds_end (by omega) M).symm)
        have hjI : ¬ (j : Int) < (ms.length : Int) := by omega
        go_wp2_with fail
        go_roundw
        case rel => exact ⟨k + 1, M, g, c, us, rfl, by go_num, by omega, hML, RP, HL, hidI (by rw [hEnd.out, ← HNX.out]; exact HE.out), HB⟩
        case measure => simp [intOf]; omega
      obtain ⟨m, hm⟩ : ∃ m, ms[j]? = some m := ⟨_, List.getElem?_eq_getElem hjl⟩
      have hjI : (j : Int) < (ms.length : Int) := by omega
      have HMP := hidI (HO.out m (List.mem_of_getElem? hm))
      obtain ⟨b, off, um, hao, hb, hcm, hum⟩ := IntSS.at (HM.out.below HB.out) hm
      subst hao
      have hpk : (permsOf M)[k]? = some (up x.1) := by unfold permsOf; rw [List.getElem?_map, HXM.out]; rfl
      have lp : (permsOf M).length = M.length := List.length_map _
      have RP' := RP.out
      rw [← lp] at RP'
      obtain ⟨up0, hup, hcp, hep⟩ := RP'.at hpk
      rw [lp] at RP'
      have hgp := RP.out.lt lp.symm
      have HXP := hidI (HG.out.isP HO.out)
      have HEP := hidI hep; have HUM := hidI hum
      have HADD := hidI (adds_next (x := x) hm M)
      have Hm := hidI hm
      obtain ⟨hgp1, hgp2, hgp3, hgp4⟩ := hgp
      unfold maxLen at hgp4
      have hkMI : (k : Int) < (M.length : Int) := by omega
      obtain ⟨_, mo, mc, humv, _⟩ := id HUM.out
      obtain ⟨_, po, pc, hupv, _⟩ := id HEP.out.1
      subst humv; subst hupv
      clear hm hpk hep hum hup RP' lp
      go_wp2_with fail
      have HW := hidI (show Below wr.heap.size wr wr.drew from (Below.refl _ _).drew)
      go_region_held3 (fun W => W.cell? ⟨g, k, none⟩ = some (.slice po (up x.1).length pc) ∧ W.cell? ⟨b, off + j, none⟩ = some (.slice mo (up m).length mc) ∧ Hid (Below wr.heap.size wr W)) (first | exact ⟨hcp, hcm, HW⟩ | (refine ⟨?_, ?_, ?_⟩ <;> assumption)) (first | (go_at_call 67; refine (spec_PermThen n x.1 m _ _ _ (HEP.out.1.below HW.out) (HUM.out.below HW.out) HXP.out HMP.out h1 h5).mono ?_; rintro e w5 ⟨vn, rfl, o5, b5⟩; have EN := hidI (El.ofOwn o5 (up_I64 (isP_join HXP.out HMP.out) h5)); have b5' := bthen HW.out b5; have RP5 := hidI (RP.out.below b5'); have B5 := hidI (bthen HB.out b5'); have q5 := hidI b5'; have cp5 := (b5'.cell (p := ⟨g, k, none⟩) hgp2).trans hcp; have cm5 := (b5'.cell (p := ⟨b, off + j, none⟩) hb).trans hcm; have hs5 := b5'.size; obtain ⟨_, no, nc, hvn, _⟩ := id EN.out.1; subst hvn; clear o5 b5 b5') | fail)
      clear HW hcp hcm cp5 cm5 HEP HUM RP HB
      go_wp2_with fail
      refine (spec_l4Has (permsOf M) (up (join x.1 m)) _ _ _ RP5.out.reads EN.out.1).mono ?_
      rintro e w6 ⟨rfl, n6, hw6⟩
      have b6 : Below w5.heap.size w5 w6 := by rw [hw6]; exact bdraw _ _
      have RP6 := hidI (RP5.out.below b6); have B6 := hidI (bthen B5.out b6); have EN6 := hidI (EN.out.below b6)
      have hs6 := b6.size
      clear hw6 b6 RP5 B5 EN q5
      by_cases hin : join x.1 m ∈ M.map Prod.fst
      · rw [decide_eq_true (mem_permsOf.2 hin)]
        have HADD' := hidI (show adds M ((nextW ms x).drop (j + 1)) = adds L (nextW ms x) by rw [← HA.out, HADD.out, addK_in hin])
        clear hin
        go_wp2_with fail
        go_roundw
        case rel => exact ⟨j + 1, M, g, c, us, rfl, by go_num, by omega, hkM, hML, RP6, HL, HXM, HADD', B6⟩
        case measure => simp [intOf]; omega
      rw [decide_eq_false (fun h => hin (mem_permsOf.1 h))]
      have eM := addK_out (x := (join x.1 m, x.2 ++ [j])) hin
      have HADD' := hidI (show adds (M ++ [(join x.1 m, x.2 ++ [j])]) ((nextW ms x).drop (j + 1)) = adds L (nextW ms x) by rw [← HA.out, HADD.out, eM])
      have HL' := hidI (show LOk n ms (k + 1) (M ++ [(join x.1 m, x.2 ++ [j])]) by rw [← eM]; exact HL.out.add HG.out HWd.out hwl Hm.out)
      have hM1 := HL'.out.le h5 HO.out
      rw [List.length_append, List.length_singleton] at hM1
      have HXM' := hidI (show (M ++ [(join x.1 m, x.2 ++ [j])])[k]? = some x by rw [List.getElem?_append_left hkM]; exact HXM.out)
      clear hin eM HA HADD Hm
      go_wp2_with (at_builtin; refine wpList_pushR w6 rfl _ _ rfl w.heap.size (.slice (some ⟨g, 0, none⟩) M.length c) us (permsOf M) (.slice no (up (join x.1 m)).length nc) (up (join x.1 m)) rfl rfl RP6.out EN6.out (by rw [permsOf_len]; omega) (by omega) ?_)
      intro g7 c7 w7 hg7 rp7 hb7 _ _
      rw [permsOf_len] at rp7 ⊢
      have RP7 := hidI rp7; have B7 := hidI (hb7 _ B6.out)
      clear rp7 hb7 RP6 B6 EN6
      go_wp2_with fail
      go_roundw
      case rel => exact ⟨j + 1, M ++ [(join x.1 m, x.2 ++ [j])], g7, c7, us ++ [.slice no (up (join x.1 m)).length nc], by rw [List.length_append]; rfl, by go_num, by omega, by rw [List.length_append]; omega, by rw [List.length_append]; exact hM1, hidI (by rw [permsOf_snoc, List.length_append]; exact RP7.out), HL', HXM', HADD', B7⟩
      case measure => simp [intOf]; omega
end Go.Proofs.Ytmmggbcmailbiaa
