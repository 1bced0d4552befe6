/- FnStatesBack: for every input the law returns true, and its argument reads as before. -/
import Derived.Test.YtobpikjegfiklaaOpenB
import Derived.Test.YtobpikjegfiklaaDrawS
import Derived.Test.YtobpikjegfiklaaStates
import Derived.Test.YtobpikjegfiklaaBackP
import Derived.Test.YtobpikjegfiklaaLawH
import Derived.Test.YtobpikjegfiklaaAlive
import Derived.Deep.DeepFit
import Derived.Outline
namespace Go.Proofs.Ytobpikjegfiklaa
open Go.ChangeShapes Go.WideShapes Go.ChangeAt Go.RowKit

theorem drawn_cell {w : World} {s : Int} {g n cap l cp k : Nat} {ao : Option Addr} {t : TaskM} {d : DeedM} (h : Drawn w s g n cap l cp ao t) (hd : t.deeds[k]? = some d) :
    ∃ b off so l' cp', ao = some ⟨b, off, none⟩ ∧ l ≤ cp ∧ cp ≤ maxLen ∧ w.cell? ⟨b, off + k * 4, none⟩ = some (.slice so l' cp') ∧ w.cell? ⟨b, off + k * 4 + 1, none⟩ = some (.int .i64 d.on) ∧ w.cell? ⟨b, off + k * 4 + 2, none⟩ = some (.int .i64 d.off) ∧ w.cell? ⟨b, off + k * 4 + 3, none⟩ = some (.int .i64 d.flip) ∧
      IsDeed w (.agg #[.slice so l' cp', .int .i64 d.on, .int .i64 d.off, .int .i64 d.flip]) d := by
  obtain ⟨go, gl, gc, ao', l', cp', e, h2, h3, h4⟩ := h.1
  injection e with e; injection e with e; injection e with q1 e; injection e with q2 e; injection e with q3
  injection q3 with s1 s2 s3
  subst s1; subst s2; subst s3
  obtain ⟨ao2, cap2, e4, h5, h6, h7⟩ := h4
  injection e4 with u1 u2 u3
  subst u1; subst u3
  rcases h7 with ⟨h7, _⟩ | ⟨b, off, h8, _, h9⟩
  · rw [h7] at hd; simp at hd
  · obtain ⟨so, l', cp', c0, c1, c2, c3, c4⟩ := h9 k d hd
    exact ⟨b, off, so, l', cp', h8, by omega, h6, c0, c1, c2, c3, c4⟩

set_option maxRecDepth 100000 in
set_option maxHeartbeats 4000000 in
theorem FnStatesBack_walk (n : Nat) (v : Value) (w : World) (h : BytS w w.heap.size v n) :
    Calls Try.prog 13 #[v] w fun e w' => e = .returned (.bool true) ∧ Below w.heap.size w w' := by
  obtain ⟨bao, bcap, hv⟩ : ∃ ao cap, v = .slice ao n cap := by obtain ⟨ao, cap, h1, _⟩ := h; exact ⟨ao, cap, h1⟩
  subst hv
  have HV := hidI h; clear h
  by_cases hbig : 1048576 < n
  · go_enter Try.func13, Try.ntmps13
    go_wp2_with fail
    go_ret
    exact ⟨rfl, Below.refl _ _⟩
  have hbig2 : (n : Int) ≤ 1048576 := by omega
  go_enter Try.func13, Try.ntmps13
  go_wp2_with fail
  go_fit (spec_DrawStatesBack n _ w HV.out); rintro e w1 ⟨s, g, m, cap, l, cp, ao, t, z, rfl, hz, hd, b1⟩
  have HZ := hidI hz; clear hz
  have HD : Hid (Drawn w1 s g m cap l cp ao t) := hd
  have HT : Hid (TBlk (w1.alloc (.cells #[.int .i64 s, .slice (some ⟨g, 0, none⟩) m cap, .slice ao l cp] 35)) w1.heap.size s (.slice (some ⟨g, 0, none⟩) m cap) (.slice ao l cp)) := heap_alloc_new w1 _
  have HB := hidI (b1.alloc b1.size (.cells #[.int .i64 s, .slice (some ⟨g, 0, none⟩) m cap, .slice ao l cp] 35))
  have HD := hidI (HD.out.below ((Below.refl _ _).alloc (Nat.le_refl _) (.cells #[.int .i64 s, .slice (some ⟨g, 0, none⟩) m cap, .slice ao l cp] 35)))
  have hl7 : l ≤ 7 := hd.2.2.2.2.2.1
  have hgl : t.goal.length ≤ 4000000 := by have := hd.2.2.1; have := hd.2.2.2.1; omega
  have hdl : ∀ d ∈ t.deeds, d.need.length ≤ 4000000 := fun d hdd => Nat.le_trans (hd.2.2.2.2.2.2 d hdd) (by omega)
  have hlen := hd.2.2.2.2.1
  have hst := hd.2.1
  clear hd b1
  obtain ⟨wd, hwd⟩ : ∃ wd, wd = w1.alloc (.cells #[.int .i64 s, .slice (some ⟨g, 0, none⟩) m cap, .slice ao l cp] 35) := ⟨_, rfl⟩
  obtain ⟨T, hTT⟩ : ∃ T, T = w1.heap.size := ⟨_, rfl⟩
  have HGL := hidI hgl; have HDL := hidI hdl; have HLN := hidI hlen; have HST := hidI hst
  clear hgl hdl hlen hst
  go_wp2_with fail
  rw [← hwd] at HT HB HD ⊢
  rw [← hTT] at HT
  try rw [← hTT]
  clear hwd hTT
  go_fit (impl_StatesBack t z _ wd HD.out.1); rintro e w2 ⟨rfl, b2⟩
  have HT := hidI ((b2.block T (Array.getElem?_eq_some_iff.1 HT.out).1).trans HT.out); have HB := hidI (bthen HB.out b2); have HD := hidI (HD.out.below b2)
  obtain ⟨t0, t1, t2⟩ := TBlk.cells HT.out
  clear b2
  go_wp2_with fail
  go_fit (spec_StatesBack t z _ w2 HD.out.1 HGL.out HDL.out); rintro e w3 ⟨rfl, b3⟩
  have HT := hidI ((b3.block T (Array.getElem?_eq_some_iff.1 HT.out).1).trans HT.out); have HB := hidI (bthen HB.out b3); have HD := hidI (HD.out.below b3)
  clear t0 t1 t2 b3
  obtain ⟨t0, t1, t2⟩ := TBlk.cells HT.out
  cases hv : taskValid t && inW z
  · have HN := hidI (show statesBack t z = -1 by unfold statesBack; rw [hv]; rfl)
    rw [HN.out]
    clear hv
    go_wp2_with fail
    go_fit (laws_alive w3); rintro e w5 ⟨rfl, b5⟩
    go_wp2_with fail
    go_ret
    exact ⟨rfl, bthen HB.out b5⟩
  rw [Bool.and_eq_true] at hv
  obtain ⟨hv, hw⟩ := hv
  obtain ⟨S, rfl, hS⟩ := inW_true hw
  obtain ⟨-, -, hl6, hdv⟩ := taskValid_parts hv
  have hr := tab_range2 hdv
  have HSB := hidI (show statesBack t S = (backTo t.deeds S t.deeds.length : Nat) by unfold statesBack; rw [hv, hw, Int.toNat_natCast]; rfl)
  have HSB2 := hidI (show statesBack t 4294967295 = (backTo t.deeds 4294967295 t.deeds.length : Nat) by unfold statesBack; rw [hv, show inW 4294967295 = true by decide]; rfl)
  have hX := backTo_lt (ds := t.deeds) S t.deeds.length
  have hY := backTo_lt (ds := t.deeds) 4294967295 t.deeds.length
  have HAND := hidI (back_more hr S t.deeds.length)
  have HANY := hidI (fun (s : Nat) (hs : s < 32) => anyB_back (ds := t.deeds) (S := S) (n := t.deeds.length) hs)
  have HDV := hidI hdv; have HR := hidI hr; have HS := hidI hS
  rw [HSB.out]
  obtain ⟨X, hXX⟩ : ∃ X, X = backTo t.deeds S t.deeds.length := ⟨_, rfl⟩
  obtain ⟨Y, hYY⟩ : ∃ Y, Y = backTo t.deeds 4294967295 t.deeds.length := ⟨_, rfl⟩
  rw [← hXX] at hX HAND HANY ⊢; rw [← hYY] at hY HAND HSB2
  have HX := hidI hX; have HY := hidI hY
  have hx0 : decide ((X : Int) < 0) = false := decide_eq_false (by omega)
  clear hXX hYY hv hw hdv hr hX hY hS
  go_wp2_with fail
  go_loopw [6] (fun i wr => ∃ k : Nat, k ≤ 32 ∧ i = .int .i64 k ∧ Hid (Below w3.heap.size w3 wr)) (fun i _ => 32 - (intOf i).toNat)
  case atStart => exact ⟨0, by omega, rfl, hidI (Below.refl _ _)⟩
  case round =>
    clear t0 t1 t2
    obtain ⟨k, hk, rfl, HBr⟩ := hrel
    rcases Nat.lt_or_ge k 32 with hk2 | hk2
    rotate_left
    · obtain rfl : k = 32 := by omega
      have HTr := hidI ((HBr.out.block T (Array.getElem?_eq_some_iff.1 HT.out).1).trans HT.out)
      obtain ⟨t0, t1, t2⟩ := TBlk.cells HTr.out
      go_wp2_with fail
      go_fit (impl_StatesBack t 4294967295 _ wr (HD.out.1.below HBr.out)); rintro e w5 ⟨rfl, b5⟩
      rw [HSB2.out]
      have B5 := hidI (bthen HBr.out b5); clear b5
      have HBO := hidI (fun (w : World) => laws_both X Y w (by have := HX.out; omega) (by have := HY.out; omega))
      rw [HAND.out] at HBO
      go_wp2_with fail
      go_fit (HBO.out _); rintro e w' ⟨rfl, rfl⟩
      go_wp2_with fail
      go_ret
      exact ⟨by first | rfl | simp, bthen HB.out B5.out⟩
    have hk3 : (k : Int) < 32 := by omega
    go_wp2_with fail
    obtain ⟨wo, hwo⟩ : ∃ wo : World, wo = wr := ⟨_, rfl⟩
    rw [← hwo] at HBr ⊢; clear hwo
    go_loopw [7, 8] (fun x i ws => ∃ (j : Nat) (b : Bool), j ≤ l ∧ i = .int .i64 j ∧ x = .bool b ∧ Hid (b = anyB t.deeds S k j) ∧ Hid (Below w3.heap.size w3 ws)) (fun _ i _ => l - (intOf i).toNat)
    case atStart => exact ⟨0, false, by omega, rfl, rfl, hidI rfl, HBr⟩
    case round =>
      obtain ⟨j, b, hj, rfl, rfl, Hb, HBi⟩ := hrel
      have HTr := hidI ((HBi.out.block T (Array.getElem?_eq_some_iff.1 HT.out).1).trans HT.out)
      obtain ⟨t0, t1, t2⟩ := TBlk.cells HTr.out
      rcases Nat.lt_or_ge j l with hj2 | hj2
      rotate_left
      · obtain rfl : j = l := by omega
        have hbx : b = X.testBit k := by rw [Hb.out, ← HANY.out k hk2, HLN.out]
        have px : 0 ≤ (X : Int) / 2 ^ k := Int.ediv_nonneg (by omega) (by exact Int.le_of_lt (Int.pow_pos (by omega)))
        have ex := half_bit X k
        rw [← hbx] at ex
        have ex' : ((X : Int) / 2 ^ k).tmod 2 = b2 b := by rw [Int.tmod_eq_emod_of_nonneg px]; exact ex
        clear hbx
        cases b
        all_goals
          simp only [b2_true, b2_false] at ex ex'
          go_wp2_with fail
          go_roundw
          case rel => exact ⟨k + 1, by omega, by go_num, HBi⟩
          case measure => simp [intOf]; omega
      obtain ⟨d, hd⟩ : ∃ d, t.deeds[j]? = some d := ⟨_, List.getElem?_eq_getElem (by rw [HLN.out]; exact hj2)⟩
      obtain ⟨db, doff, so, l', cp', hao, hc1, hc2, q0, q1, q2, q3, hde⟩ := drawn_cell (HD.out.below HBi.out) hd
      subst hao
      unfold maxLen at hc2
      have HDE := hidI hde
      have hdm := HDV.out d (List.mem_of_getElem? hd)
      have hta := tabAt_at hd hk2
      have HDD := hidI (show deedDo d k = tabAt t.deeds (j * 32 + k) by unfold deedDo; rw [hdm, show inS (k : Int) = true from inS_nat hk2, Int.toNat_natCast, hta]; rfl)
      have hj3 : (j : Int) < (l : Int) := by omega
      clear hde hdm hta hd
      rcases HR.out (j * 32 + k) with hv | ⟨Q, hQ, hv⟩
      · have HNX := hidI (show anyB t.deeds S k (j + 1) = b by rw [anyB, hv, ← Hb.out]; simp)
        rw [hv] at HDD
        clear hv
        cases b
        all_goals
          go_wp2_with fail
          go_fit (impl_DeedDo d k _ _ HDE.out); rintro e w6 ⟨rfl, b6⟩
          rw [HDD.out]
          have B6 := hidI (bthen HBi.out b6); clear b6
          go_wp2_with fail
          go_roundw
          case rel => exact ⟨j + 1, _, by omega, by go_num, rfl, hidI HNX.out.symm, B6⟩
          case measure => simp [intOf]; omega
      · have HNX := hidI (show anyB t.deeds S k (j + 1) = (b || S.testBit Q) by rw [anyB, hv, ← Hb.out]; simp)
        rw [hv] at HDD
        have ps : 0 ≤ (S : Int) / 2 ^ Q := Int.ediv_nonneg (by omega) (by exact Int.le_of_lt (Int.pow_pos (by omega)))
        have es := half_bit S Q
        have es' : ((S : Int) / 2 ^ Q).tmod 2 = b2 (S.testBit Q) := by rw [Int.tmod_eq_emod_of_nonneg ps]; exact es
        clear hv
        cases hb : S.testBit Q
        all_goals
          rw [hb] at es es' HNX
          simp only [b2_true, b2_false] at es es'
          clear hb
          cases b
          all_goals
            go_wp2_with fail
            go_fit (impl_DeedDo d k _ _ HDE.out); rintro e w6 ⟨rfl, b6⟩
            rw [HDD.out]
            have B6 := hidI (bthen HBi.out b6); clear b6
            go_wp2_with fail
            go_roundw
            case rel => exact ⟨j + 1, _, by omega, by go_num, rfl, hidI HNX.out.symm, B6⟩
            case measure => simp [intOf]; omega

set_option maxRecDepth 100000 in
theorem FnStatesBack_lifted (os : Os) (started : os.Started) (H : Type) (enc : TypeId × Value → H) :
    ReturnsInHanded {} Try.checked os 13 .any (Rows.fnStatesBackSpec.pre6 enc Try.prog Try.f13 Rows.fnStatesBackRow.domain false) (Rows.fnStatesBackSpec.post enc Try.prog Try.f13 false true false false) := by
  refine returnsInHanded_of_change (C := Try.checked) own started (by kernel_rfl) Try.func13
    (ChangeSpec.witness6 (enc := enc) (C := Try.checked) false ⟨#[], #[.slice none 0 0], []⟩ 8 (by kernel_rfl) (by kernel_rfl) (by kernel_rfl) (by kernel_rfl)) ?_
  intro W base args ds gs before hval0 hW hcnd _
  have hval : ∀ (j : Nat) t v, Try.f13.params[j]? = some t → args[j]? = some v → Value.okWide Try.prog W .any base t v := hval0
  have hW' := hW
  obtain ⟨p, q, hA0, hV, rfl, hfz, hnd⟩ := hW
  have hA : DataW.TrodAll enc Try.prog W 0 (fun _ => true) true Try.f13.params.toList args.toList ds p := hA0
  rw [Try.params13] at hA hval
  obtain ⟨rfl, rfl⟩ := trodVars_none hV
  clear hA0 hval0
  simp only [List.append_nil] at hW'
  obtain ⟨v0, d0, rfl, rfl, h0⟩ := trodAll_one hA
  have l0 : ∀ x ∈ p, x.block < W.heap.size := fun x hx => by simpa using hW'.lt x hx
  have k0 : ∀ (W' : World), Below W.heap.size W W' → DataW.Trod enc Try.prog W' 0 (fun b => decide (b < W.heap.size)) true 22 v0 d0 p := fun W' hn => Below.trod laidOut (by kernel_rfl) (of_decide_eq_true (by kernel_rfl)) h0 hn l0
  obtain ⟨n, hn⟩ := open_BytS (hval 0 22 v0 rfl rfl) h0 l0
  refine (FnStatesBack_walk n v0 W hn).mono fun e W' ⟨he, hb⟩ => ?_
  subst he
  exact ⟨_, rfl, _, _, _, [], _, [], hW', shut_true, trodAll_mk1 (k0 _ hb), rfl, hb.frame _, fun h => by cases h⟩

theorem FnStatesBack_holds : Rows.FnStatesBackSaid :=
  OpenClaim.holds_of_wide 13 Try.f13 rfl rfl rfl rfl rfl rfl rfl ⟨rfl, rfl, rfl, rfl, rfl⟩ rfl rfl rfl rfl rfl (by kernel_rfl) Try.func13 (by kernel_rfl)
    (of_decide_eq_true (by kernel_rfl)) (by unfold Func.isWrapper; first | (rw [if_pos (by decide +kernel)]; kernel_rfl) | (rw [if_neg (by decide +kernel)]; exact ⟨rfl, rfl⟩))
    (fun os started H enc _ => FnStatesBack_lifted os started H enc)
end Go.Proofs.Ytobpikjegfiklaa
