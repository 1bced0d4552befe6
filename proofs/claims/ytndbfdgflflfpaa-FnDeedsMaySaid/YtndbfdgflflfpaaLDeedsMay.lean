/- FnDeedsMay: for every input the law returns true, and its argument reads as before. -/
import Derived.Test.YtndbfdgflflfpaaOpenB
import Derived.Test.YtndbfdgflflfpaaDrawM
import Derived.Test.YtndbfdgflflfpaaMay
import Derived.Test.YtndbfdgflflfpaaLawH
import Derived.Test.YtndbfdgflflfpaaAlive
import Derived.Deep.RegionHeld3
import Derived.Deep.DeepFit
import Derived.Outline
namespace Go.Proofs.Ytndbfdgflflfpaa
open Go.ChangeShapes Go.WideShapes Go.ChangeAt Go.RowKit

theorem drawn_cellM {w : World} {s : Int} {g n cap l cp k : Nat} {ao : Option Addr} {t : TaskM} {d : DeedM} (h : Drawn w s g n cap l cp ao t) (hd : t.deeds[k]? = some d) :
    ∃ b off so l' cp', ao = some ⟨b, off, none⟩ ∧ l ≤ cp ∧ cp ≤ maxLen ∧ b < w.heap.size ∧ w.cell? ⟨b, off + k * 4, none⟩ = some (.slice so l' cp') ∧ IntS w (.slice so l' cp') d.need := by
  obtain ⟨go, gl, gc, ao', l', cp', e, h2, h3, h4⟩ := h.1
  injection e with e; injection e with e; injection e with q1 e; injection e with q2 e; injection e with q3
  injection q3 with s1 s2 s3
  subst s1; subst s2; subst s3
  obtain ⟨ao2, cap2, e4, h5, h6, h7⟩ := h4
  injection e4 with u1 u2 u3
  subst u1; subst u3
  rcases h7 with ⟨h7, _⟩ | ⟨b, off, h8, hb, h9⟩
  · rw [h7] at hd; simp at hd
  · obtain ⟨so, l', cp', c0, c1, c2, c3, c4⟩ := h9 k d hd
    obtain ⟨so2, l2, cp2, e5, h10, _⟩ := c4
    injection e5 with e5; injection e5 with e5; injection e5 with e5 _
    exact ⟨b, off, so, l', cp', h8, by omega, h6, hb, c0, by rw [e5]; exact h10⟩

theorem mayTo_mem (ds : List DeedM) (s : Nat) : ∀ (n k : Nat), ((k : Int) ∈ mayTo ds s n) ↔ k < n ∧ 0 ≤ tabAt ds (k * 32 + s)
  | 0, k => by simp [mayTo]
  | n + 1, k => by
    rw [mayTo]
    by_cases h : 0 ≤ tabAt ds (n * 32 + s)
    · rw [if_pos h, List.mem_append, mayTo_mem ds s n k, List.mem_singleton]
      constructor
      · rintro (⟨h1, h2⟩ | h1)
        · exact ⟨by omega, h2⟩
        · have : k = n := by omega
          subst this; exact ⟨by omega, h⟩
      · rintro ⟨h1, h2⟩
        by_cases e : k = n
        · exact .inr (by rw [e])
        · exact .inl ⟨by omega, h2⟩
    · rw [if_neg h, mayTo_mem ds s n k]
      constructor
      · rintro ⟨h1, h2⟩; exact ⟨by omega, h2⟩
      · rintro ⟨h1, h2⟩
        refine ⟨?_, h2⟩
        by_cases e : k = n
        · subst e; exact absurd h2 h
        · omega

theorem mayTo_lt (ds : List DeedM) (s : Nat) : ∀ (n : Nat), ∀ z ∈ mayTo ds s n, 0 ≤ z ∧ z < n
  | 0, z, h => by simp [mayTo] at h
  | n + 1, z, h => by
    rw [mayTo] at h
    by_cases c : 0 ≤ tabAt ds (n * 32 + s)
    · rw [if_pos c, List.mem_append, List.mem_singleton] at h
      rcases h with h | h
      · have := mayTo_lt ds s n z h; omega
      · omega
    · rw [if_neg c] at h
      have := mayTo_lt ds s n z h; omega

theorem mayTo_sorted (ds : List DeedM) (s : Nat) : ∀ (n : Nat), (mayTo ds s n).Pairwise (· < ·)
  | 0 => by simp [mayTo]
  | n + 1 => by
    rw [mayTo]
    split
    · rw [List.pairwise_append]
      refine ⟨mayTo_sorted ds s n, by simp, ?_⟩
      intro a ha b hb
      rw [List.mem_singleton] at hb
      have := (mayTo_lt ds s n a ha).2
      omega
    · exact mayTo_sorted ds s n

theorem deedsMay_up (t : TaskM) (z : Int) : ∀ i, i + 1 < (deedsMay t z).length → (deedsMay t z).getD i 0 < (deedsMay t z).getD (i + 1) 0 := by
  have hs : (deedsMay t z).Pairwise (· < ·) := by
    unfold deedsMay; split
    · exact mayTo_sorted _ _ _
    · exact List.Pairwise.nil
  intro i hi
  rw [List.getD_eq_getElem?_getD, List.getD_eq_getElem?_getD, List.getElem?_eq_getElem (by omega), List.getElem?_eq_getElem hi]
  exact List.pairwise_iff_getElem.1 hs i (i + 1) (by omega) hi (by omega)

theorem deedsMay_run {t : TaskM} (hv : taskValid t = true) {k : Nat} {d : DeedM} (hd : t.deeds[k]? = some d) (z : Nat) : decide ((k : Int) ∈ deedsMay t z) = codeRun d.need z := by
  obtain ⟨-, -, -, hdv⟩ := taskValid_parts hv
  have hdm := hdv d (List.mem_of_getElem? hd)
  obtain ⟨a, b, c, _, _, _, _, _, _, _, hcv⟩ := deed_valid hdm
  unfold deedsMay codeRun
  rw [hv, hcv, Bool.true_and, Bool.true_and]
  by_cases hz : z < 32
  · rw [if_pos (inS_nat hz), decide_eq_true (show (0 : Int) ≤ (z : Int) ∧ (z : Int) < 32 by omega), Bool.true_and, Int.toNat_natCast]
    have hk : k < t.deeds.length := (List.getElem?_eq_some_iff.1 hd).1
    rw [Bool.eq_iff_iff, decide_eq_true_iff, mayTo_mem, tabAt_at hd hz]
    unfold behind
    cases runAll d.need z with
    | true => rw [if_pos rfl]; exact ⟨fun _ => rfl, fun _ => ⟨hk, by omega⟩⟩
    | false => rw [if_neg (by decide)]; exact ⟨fun h => by omega, fun h => by cases h⟩
  · have e : decide ((0 : Int) ≤ (z : Int) ∧ (z : Int) < 32) = false := decide_eq_false (by omega)
    rw [if_neg (by unfold inS; rw [e]; decide), e]
    simp

theorem deedsMay_I64 (t : TaskM) (z : Int) (hl : t.deeds.length ≤ 1000) : ∀ y ∈ deedsMay t z, I64 y := by
  unfold deedsMay
  split
  · intro y hy
    have := mayTo_lt _ _ _ y hy
    unfold I64; omega
  · simp

set_option maxRecDepth 100000 in
set_option maxHeartbeats 4000000 in
theorem FnDeedsMay_walk (n : Nat) (v : Value) (w : World) (h : BytS w w.heap.size v n) :
    Calls Try.prog 5 #[v] w fun e w' => e = .returned (.bool true) ∧ Below w.heap.size w w' := by
  obtain ⟨bao, bcap, hv⟩ : ∃ ao cap, v = .slice ao n cap := by obtain ⟨ao, cap, h1, _⟩ := h; exact ⟨ao, cap, h1⟩
  subst hv
  have HV := hidI h; clear h
  by_cases hbig : 1048576 < n
  · go_enter Try.func5, Try.ntmps5
    go_wp2_with fail
    go_ret
    exact ⟨rfl, Below.refl _ _⟩
  have hbig2 : (n : Int) ≤ 1048576 := by omega
  go_enter Try.func5, Try.ntmps5
  go_wp2_with fail
  go_fit (spec_DrawDeedsMay n _ w HV.out); rintro e w1 ⟨s, g, m, cap, l, cp, ao, t, z, rfl, hz1, hz2, hd, b1⟩
  obtain ⟨z, rfl⟩ := Int.eq_ofNat_of_zero_le hz1
  clear hz1
  have HD : Hid (Drawn w1 s g m cap l cp ao t) := hd
  have HT : Hid (TBlk (w1.alloc (.cells #[.int .i64 s, .slice (some ⟨g, 0, none⟩) m cap, .slice ao l cp] 35)) w1.heap.size s (.slice (some ⟨g, 0, none⟩) m cap) (.slice ao l cp)) := heap_alloc_new w1 _
  have HB := hidI (b1.alloc b1.size (.cells #[.int .i64 s, .slice (some ⟨g, 0, none⟩) m cap, .slice ao l cp] 35))
  have HD := hidI (HD.out.below ((Below.refl _ _).alloc (Nat.le_refl _) (.cells #[.int .i64 s, .slice (some ⟨g, 0, none⟩) m cap, .slice ao l cp] 35)))
  have hl7 : l ≤ 7 := hd.2.2.2.2.2.1
  have hgl : t.goal.length ≤ 4000000 := by have := hd.2.2.1; have := hd.2.2.2.1; omega
  have hdl : ∀ d ∈ t.deeds, d.need.length ≤ 4000000 := fun d hdd => Nat.le_trans (hd.2.2.2.2.2.2 d hdd) (by omega)
  have hlen := hd.2.2.2.2.1
  have hst := hd.2.1
  clear hd b1
  obtain ⟨wd, hwd⟩ : ∃ wd, wd = w1.alloc (.cells #[.int .i64 s, .slice (some ⟨g, 0, none⟩) m cap, .slice ao l cp] 35) := ⟨_, rfl⟩
  obtain ⟨T, hTT⟩ : ∃ T, T = w1.heap.size := ⟨_, rfl⟩
  have HGL := hidI hgl; have HDL := hidI hdl; have HLN := hidI hlen; have HST := hidI hst
  clear hgl hdl hlen hst
  go_wp2_with fail
  rw [← hwd] at HT HB HD ⊢
  rw [← hTT] at HT
  try rw [← hTT]
  clear hwd hTT
  have HI := hidI (deedsMay_I64 t z (by rw [HLN.out]; omega))
  obtain ⟨t0, t1, t2⟩ := TBlk.cells HT.out
  go_fit (impl_DeedsMay t z _ wd HD.out.1); rintro e w2 ⟨ag, cg, rfl, o2, b2⟩
  have HT := hidI ((b2.block T (Array.getElem?_eq_some_iff.1 HT.out).1).trans HT.out); have HB := hidI (bthen HB.out b2); have HD := hidI (HD.out.below b2)
  have IG := hidI (IntS.ofOwn o2 HI.out).2
  clear b2 o2 t0 t1 t2
  obtain ⟨t0, t1, t2⟩ := TBlk.cells HT.out
  go_wp2_with fail
  go_fit (spec_DeedsMay t z _ w2 HD.out.1 HGL.out HDL.out); rintro e w3 ⟨asl, cs, rfl, o3, b3⟩
  have HT := hidI ((b3.block T (Array.getElem?_eq_some_iff.1 HT.out).1).trans HT.out); have HB := hidI (bthen HB.out b3); have HD := hidI (HD.out.below b3)
  have IG := hidI (IG.out.below b3); have IS := hidI (IntS.ofOwn o3 HI.out).2
  clear t0 t1 t2 b3 o3
  go_wp2_with fail
  go_fit (sameInts_any _ _ _ _ w3 IG.out IS.out); rintro e w4 ⟨rfl, n4, hw4⟩
  have b4 := bdraw w3 n4
  rw [← hw4] at b4
  have HT := hidI ((b4.block T (Array.getElem?_eq_some_iff.1 HT.out).1).trans HT.out); have HB := hidI (bthen HB.out b4); have HD := hidI (HD.out.below b4)
  have IG := hidI (IG.out.below b4); clear b4 hw4 IS
  simp only [decide_true]
  obtain ⟨t0, t1, t2⟩ := TBlk.cells HT.out
  have HUP := hidI (deedsMay_up t z)
  obtain ⟨q, hq⟩ : ∃ q, q = deedsMay t z := ⟨_, rfl⟩
  rw [← hq] at IG HUP ⊢
  have HQ := hidI hq; clear hq HI
  go_wp2_with fail
  go_loopw [6] (fun i wr => ∃ k : Nat, k ≤ l ∧ i = .int .i64 k ∧ Hid (Below w4.heap.size w4 wr)) (fun i _ => l - (intOf i).toNat)
  case atStart => exact ⟨0, by omega, rfl, hidI (Below.refl _ _)⟩
  case round =>
    clear t0 t1 t2
    obtain ⟨k, hk, rfl, HBr⟩ := hrel
    have HTr := hidI ((HBr.out.block T (Array.getElem?_eq_some_iff.1 HT.out).1).trans HT.out)
    obtain ⟨t0, t1, t2⟩ := TBlk.cells HTr.out
    rcases Nat.lt_or_ge k l with hk2 | hk2
    rotate_left
    · obtain rfl : k = l := by omega
      go_wp2_with fail
      go_fit (laws_ascend q _ _ (IG.out.below HBr.out) HUP.out); rintro e w5 ⟨rfl, n5, rfl⟩
      go_wp2_with fail
      go_fit (laws_alive _); rintro e w6 ⟨rfl, b6⟩
      go_wp2_with fail
      go_ret
      exact ⟨rfl, bthen HB.out (bthen HBr.out (bthen (bdraw _ _) b6))⟩
    have hk3 : (k : Int) < (l : Int) := by omega
    go_wp2_with fail
    go_fit (spec_TaskValid t _ _ (HD.out.1.below HBr.out) HGL.out HDL.out); rintro e w5 ⟨rfl, b5⟩
    have HB5 := hidI (bthen HBr.out b5); clear b5 t0 t1 t2
    cases hv : taskValid t
    · clear hv
      go_wp2_with fail
      go_fit (laws_ascend q _ _ (IG.out.below HB5.out) HUP.out); rintro e w6 ⟨rfl, n6, rfl⟩
      go_wp2_with fail
      go_fit (laws_alive _); rintro e w7 ⟨rfl, b7⟩
      go_wp2_with fail
      go_ret
      exact ⟨rfl, bthen HB.out (bthen HB5.out (bthen (bdraw _ _) b7))⟩
    obtain ⟨d, hd⟩ : ∃ d, t.deeds[k]? = some d := ⟨_, List.getElem?_eq_getElem (by rw [HLN.out]; exact hk2)⟩
    obtain ⟨db, doff, so, l', cp', hao, hc1, hc2, hdb, q0, hde⟩ := drawn_cellM (HD.out.below HB5.out) hd
    subst hao
    unfold maxLen at hc2
    have HDE := hidI hde
    have HR := hidI (deedsMay_run hv hd z)
    rw [← HQ.out] at HR
    have HT5 := hidI ((HB5.out.block T (Array.getElem?_eq_some_iff.1 HT.out).1).trans HT.out)
    obtain ⟨t0, t1, t2⟩ := TBlk.cells HT5.out
    have htl : T < w5.heap.size := (Array.getElem?_eq_some_iff.1 HT5.out).1
    clear hde hv hd
    go_wp2_with fail
    go_region_held3 (fun W => W.cell? ⟨T, 2, none⟩ = some (.slice (some ⟨db, doff, none⟩) l cp) ∧ W.cell? ⟨db, doff + k * 4, none⟩ = some (.slice so l' cp') ∧ Hid (Below w5.heap.size w5 W)) (first | exact ⟨t2, q0, hidI (Below.refl _ _).drew⟩ | (refine ⟨?_, ?_, ?_⟩ <;> assumption))
      (first | (go_at_call 23; refine (laws_hasInt q k _ _ (IG.out.below (bthen HB5.out (Below.refl _ _).drew))).mono ?_; rintro e w' ⟨rfl, rfl⟩; rw [HR.out]) | (go_at_call 24; refine (impl_CodeRun d.need z _ _ (HDE.out.below (Below.refl _ _).drew)).mono ?_; rintro e w6 ⟨rfl, b6⟩; have q6 := hidI (bthen (Below.refl _ _).drew b6); have d2 := (q6.out.cell (p := ⟨T, 2, none⟩) htl).trans t2; have d0 := (q6.out.cell (p := ⟨db, doff + k * 4, none⟩) hdb).trans q0) | fail)
    have HB6 := hidI (bthen HB5.out q6.out)
    clear b6 q6 d2 d0
    go_wp2_with fail
    go_roundw
    case rel => exact ⟨k + 1, by omega, by go_num, HB6⟩
    case measure => simp [intOf]; omega

set_option maxRecDepth 100000 in
theorem FnDeedsMay_lifted (os : Os) (started : os.Started) (H : Type) (enc : TypeId × Value → H) :
    ReturnsInHanded {} Try.checked os 5 .any (Rows.fnDeedsMaySpec.pre6 enc Try.prog Try.f5 Rows.fnDeedsMayRow.domain false) (Rows.fnDeedsMaySpec.post enc Try.prog Try.f5 false true false false) := by
  refine returnsInHanded_of_change (C := Try.checked) own started (by kernel_rfl) Try.func5
    (ChangeSpec.witness6 (enc := enc) (C := Try.checked) false ⟨#[], #[.slice none 0 0], []⟩ 8 (by kernel_rfl) (by kernel_rfl) (by kernel_rfl) (by kernel_rfl)) ?_
  intro W base args ds gs before hval0 hW hcnd _
  have hval : ∀ (j : Nat) t v, Try.f5.params[j]? = some t → args[j]? = some v → Value.okWide Try.prog W .any base t v := hval0
  have hW' := hW
  obtain ⟨p, q, hA0, hV, rfl, hfz, hnd⟩ := hW
  have hA : DataW.TrodAll enc Try.prog W 0 (fun _ => true) true Try.f5.params.toList args.toList ds p := hA0
  rw [Try.params5] at hA hval
  obtain ⟨rfl, rfl⟩ := trodVars_none hV
  clear hA0 hval0
  simp only [List.append_nil] at hW'
  obtain ⟨v0, d0, rfl, rfl, h0⟩ := trodAll_one hA
  have l0 : ∀ x ∈ p, x.block < W.heap.size := fun x hx => by simpa using hW'.lt x hx
  have k0 : ∀ (W' : World), Below W.heap.size W W' → DataW.Trod enc Try.prog W' 0 (fun b => decide (b < W.heap.size)) true 40 v0 d0 p := fun W' hn => Below.trod laidOut (by kernel_rfl) (of_decide_eq_true (by kernel_rfl)) h0 hn l0
  obtain ⟨n, hn⟩ := open_BytS (hval 0 40 v0 rfl rfl) h0 l0
  refine (FnDeedsMay_walk n v0 W hn).mono fun e W' ⟨he, hb⟩ => ?_
  subst he
  exact ⟨_, rfl, _, _, _, [], _, [], hW', shut_true, trodAll_mk1 (k0 _ hb), rfl, hb.frame _, fun h => by cases h⟩

theorem FnDeedsMay_holds : Rows.FnDeedsMaySaid :=
  OpenClaim.holds_of_wide 5 Try.f5 rfl rfl rfl rfl rfl rfl rfl ⟨rfl, rfl, rfl, rfl, rfl⟩ rfl rfl rfl rfl rfl (by kernel_rfl) Try.func5 (by kernel_rfl)
    (of_decide_eq_true (by kernel_rfl)) (by unfold Func.isWrapper; first | (rw [if_pos (by decide +kernel)]; kernel_rfl) | (rw [if_neg (by decide +kernel)]; exact ⟨rfl, rfl⟩))
    (fun os started H enc _ => FnDeedsMay_lifted os started H enc)
end Go.Proofs.Ytndbfdgflflfpaa
