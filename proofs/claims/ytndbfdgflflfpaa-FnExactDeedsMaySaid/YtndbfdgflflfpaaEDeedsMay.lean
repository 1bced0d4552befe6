/- FnExactDeedsMay: for every input the law returns true, and its arguments read as before. -/
import Derived.Test.YtndbfdgflflfpaaOpenT
import Derived.Test.YtndbfdgflflfpaaMay
import Derived.Test.YtndbfdgflflfpaaMarkT
import Derived.Deep.RegionHeld3
import Derived.Outline
namespace Go.Proofs.Ytndbfdgflflfpaa
open Go.ChangeShapes Go.WideShapes Go.ChangeAt Go.RowKit

theorem mayTo_ltE (ds : List DeedM) (s : Nat) : ∀ (n : Nat), ∀ z ∈ mayTo ds s n, 0 ≤ z ∧ z < n
  | 0, z, h => by simp [mayTo] at h
  | n + 1, z, h => by
    rw [mayTo] at h
    by_cases c : 0 ≤ tabAt ds (n * 32 + s)
    · rw [if_pos c, List.mem_append, List.mem_singleton] at h
      rcases h with h | h
      · have := mayTo_ltE ds s n z h; omega
      · omega
    · rw [if_neg c] at h
      have := mayTo_ltE ds s n z h; omega

theorem deedsMay_I64E (t : TaskM) (z : Int) (hl : t.deeds.length ≤ 2000000) : ∀ y ∈ deedsMay t z, I64 y := by
  unfold deedsMay
  split
  · intro y hy
    have := mayTo_ltE _ _ _ y hy
    unfold I64; omega
  · simp

theorem deedsMay_len (t : TaskM) (z : Int) : (deedsMay t z).length ≤ t.deeds.length := by
  unfold deedsMay
  split
  · exact mayTo_le _ _ _
  · simp

theorem szTasks_sum {t : TaskM} (h : ¬ szTasks t 1048576 < 0) : needSum t.deeds ≤ 2000000 := by
  unfold szTasks at h
  by_cases c : szInts t.goal.length 1048576 < 0
  · rw [if_pos c] at h; omega
  · rw [if_neg c] at h
    obtain ⟨h1, h2⟩ := szInts_le (by omega) c
    unfold szDeeds at h
    by_cases c2 : szInts t.goal.length 1048576 - t.deeds.length < 0
    · rw [if_pos c2] at h; omega
    · rw [if_neg c2] at h
      have := szGo_sum _ _ (by omega) h
      omega

theorem marks_I64m {k n : Nat} (h : k + n ≤ 100000000) : ∀ z ∈ marks k n, I64 z := by
  intro z hz
  have := marks_mem hz
  unfold I64; omega

set_option maxRecDepth 100000 in
set_option maxHeartbeats 2000000 in
theorem FnExactDeedsMay_walk (t : TaskM) (n : Int) (v : Value) (w : World) (h : IsTask w v t) :
    Calls Try.prog 4 #[v, .int .i64 n] w fun e w' => e = .returned (.bool true) ∧ Below w.heap.size w w' := by
  obtain ⟨go, gl, gc, ao, l, cp, hv, hI, hn, hm⟩ := id h
  obtain ⟨Wb, hWb⟩ : ∃ Wb, Wb = w.alloc (.cells #[.int .i64 t.start, .slice go gl gc, .slice ao l cp] 30) := ⟨_, rfl⟩
  have hsz : Wb.heap.size = w.heap.size + 1 := by rw [hWb]; simp
  have ba : Below w.heap.size w Wb := by rw [hWb]; exact (Below.refl w.heap.size w).alloc (Nat.le_refl _) _
  have ID : ∀ W, Below w.heap.size w W → IsTask W (.agg #[.int .i64 t.start, .slice go gl gc, .slice ao l cp]) t := fun W hW => by rw [← hv]; exact h.below hW
  have CC : ∀ W, Below Wb.heap.size Wb W → W.cell? ⟨w.heap.size, 0, none⟩ = some (.int .i64 t.start) ∧ W.cell? ⟨w.heap.size, 1, none⟩ = some (.slice go gl gc) ∧ W.cell? ⟨w.heap.size, 2, none⟩ = some (.slice ao l cp) := fun W hW =>
    ⟨(hW.cell (by simp; omega)).trans (by rw [hWb, cell_new]; rfl), (hW.cell (by simp; omega)).trans (by rw [hWb, cell_new]; rfl), (hW.cell (by simp; omega)).trans (by rw [hWb, cell_new]; rfl)⟩
  subst hv
  have HID := hidI ID; have HCC := hidI CC; have hB := hidI ba; have HW := hidI hWb; have hsZ := hidI hsz; clear ID CC ba
  have hlt : w.heap.size < Wb.heap.size := by omega
  have HUP : Hid (∀ W, Below Wb.heap.size Wb W → Below w.heap.size w W) := hidI (fun W hW => hB.out.trans (hW.mono (by omega)))
  clear hsz hm hn
  go_enter Try.func4, Try.ntmps4
  go_wp2_with fail
  rw [← hWb]; clear hWb
  refine (szTask_any t _ _ (HID.out _ hB.out)).mono ?_; rintro e w1 ⟨rfl, b1⟩
  obtain ⟨c10, c11, c12⟩ := HCC.out _ b1
  have B1 := hidI b1; clear b1
  by_cases hneg : szTasks t 1048576 < 0
  · go_wp2_with fail
    go_ret
    exact ⟨rfl, HUP.out _ B1.out⟩
  have HLEN := hidI (szTasks_le hneg)
  have HDL := hidI (show ∀ d ∈ t.deeds, d.need.length ≤ 4000000 from fun d hd => Nat.le_trans (HLEN.out.2.2 d hd) (by omega))
  have HGL := hidI (show t.goal.length ≤ 4000000 from Nat.le_trans HLEN.out.1 (by omega))
  have HSUM := hidI (szTasks_sum hneg)
  have HI64 := hidI (deedsMay_I64E t n (Nat.le_trans HLEN.out.2.1 (by omega)))
  have hql := Nat.le_trans (deedsMay_len t n) (Nat.le_trans HLEN.out.2.1 (show 1048576 ≤ 2000000 by omega))
  obtain ⟨q, hq⟩ : ∃ q, q = deedsMay t n := ⟨_, rfl⟩
  have HQ := hidI hq
  rw [← hq] at HI64 hql
  clear hq
  go_wp2_with fail
  refine (toTask_any t _ _ (HID.out _ (HUP.out _ B1.out)) HLEN.out).mono ?_; rintro e w2 ⟨v2, rfl, h2, b2⟩
  have B2 := hidI (bthen B1.out b2); clear b2
  go_wp2_with fail
  refine (spec_DeedsMay t n _ _ h2 HGL.out HDL.out).mono ?_; rintro e w3 ⟨aw, cw, rfl, o3, b3⟩
  rw [← HQ.out] at o3 ⊢
  have B3 := hidI (bthen B2.out b3)
  have OW := hidI o3
  clear b3 o3
  obtain ⟨c30, c31, c32⟩ := HCC.out _ B3.out
  go_wp2_with fail
  refine (toTask_own t _ _ (HID.out _ (HUP.out _ B3.out)) HLEN.out).mono ?_; rintro e w4 ⟨G, D, rfl, h4, b4, t4⟩
  have HT4 := hidI t4
  have H4 := hidI h4
  have B4 := hidI (bthen B3.out b4)
  have OW4 := hidI (own_belowM OW.out b4)
  have hWk := hidI (fun k (hk : (Value.slice aw q.length cw).ownBlock = some k) => (OW.out.lt k hk).2)
  have hBase := B3.out.size; have hs34 := b4.size
  clear h4 b4 t4 c30 c31 c32 c10 c11 c12
  go_wp2_with fail
  obtain ⟨Wx, hWx⟩ : ∃ Wx, Wx = w4.alloc (.cells #[.int .i64 t.start, .slice (some ⟨G, 0, none⟩) t.goal.length t.goal.length, .slice (some ⟨D, 0, none⟩) t.deeds.length t.deeds.length] 35) := ⟨_, rfl⟩
  rw [← hWx]
  have hszx : Wx.heap.size = w4.heap.size + 1 := by rw [hWx]; simp
  have bx : Below w4.heap.size w4 Wx := by rw [hWx]; exact (Below.refl _ _).alloc (Nat.le_refl _) _
  have CX : ∀ W, Below Wx.heap.size Wx W → W.cell? ⟨w4.heap.size, 0, none⟩ = some (.int .i64 t.start) ∧ W.cell? ⟨w4.heap.size, 1, none⟩ = some (.slice (some ⟨G, 0, none⟩) t.goal.length t.goal.length) ∧ W.cell? ⟨w4.heap.size, 2, none⟩ = some (.slice (some ⟨D, 0, none⟩) t.deeds.length t.deeds.length) := fun W hW =>
    ⟨(hW.cell (by simp; omega)).trans (by rw [hWx, cell_new]; rfl), (hW.cell (by simp; omega)).trans (by rw [hWx, cell_new]; rfl), (hW.cell (by simp; omega)).trans (by rw [hWx, cell_new]; rfl)⟩
  have HCX := hidI CX; have B5 := hidI (bthen B4.out bx); have BX := hidI bx
  have HX4 := hidI (fun W (hW : Below Wx.heap.size Wx W) => H4.out.below (bx.trans (hW.mono (by omega))))
  have hxs : w4.heap.size < Wx.heap.size := by omega
  have OW5 := hidI (own_belowM OW4.out bx)
  clear CX bx hszx hWx
  obtain ⟨x0, x1, x2⟩ := HCX.out _ (Below.refl _ _)
  refine (impl_DeedsMay t n _ _ (HX4.out _ (Below.refl _ _))).mono ?_; rintro e w6 ⟨ag, cg, rfl, o6, b6⟩
  rw [← HQ.out] at o6 ⊢
  have OG := hidI o6
  have H6 := hidI b6
  have OW6 := hidI (own_belowM OW5.out b6)
  have hGk := hidI (fun k (hk : (Value.slice ag q.length cg).ownBlock = some k) => (OG.out.lt k hk).1)
  clear o6 b6 x0 x1 x2
  have HAB := hidI (fun W (hW : Below Wx.heap.size Wx W) => bthen B5.out hW)
  go_wp2_with fail
  refine (eqIntS_any _ _ _ _ _ (IntS.ofOwn OG.out HI64.out).2 (IntS.ofOwn OW6.out HI64.out).2).mono ?_; rintro e w7 ⟨rfl, n7, hw7⟩
  have b7 := bdraw w6 n7
  rw [← hw7] at b7
  have H7 := hidI (bthen H6.out b7); have OG := hidI (own_belowM OG.out b7); have OW7 := hidI (own_belowM OW6.out b7)
  simp only [decide_true]
  clear b7 hw7
  obtain ⟨x0, x1, x2⟩ := HCX.out _ H7.out
  obtain ⟨y0, y1, y2⟩ := HCC.out _ (HAB.out _ H7.out)
  go_wp2_with fail
  go_region_held3 (fun W => W.cell? ⟨w4.heap.size, 0, none⟩ = some (.int .i64 t.start) ∧ W.cell? ⟨w4.heap.size, 1, none⟩ = some (.slice (some ⟨G, 0, none⟩) t.goal.length t.goal.length) ∧ W.cell? ⟨w4.heap.size, 2, none⟩ = some (.slice (some ⟨D, 0, none⟩) t.deeds.length t.deeds.length) ∧ W.cell? ⟨w.heap.size, 0, none⟩ = some (.int .i64 t.start) ∧ W.cell? ⟨w.heap.size, 1, none⟩ = some (.slice go gl gc) ∧ W.cell? ⟨w.heap.size, 2, none⟩ = some (.slice ao l cp) ∧ Hid (Below w7.heap.size w7 W))
    (first | exact ⟨x0, x1, x2, y0, y1, y2, hidI (Below.refl _ _).drew⟩ | (refine ⟨?_, ?_, ?_, ?_, ?_, ?_, ?_⟩ <;> assumption))
    (first | (go_at_call 16; refine (toTask_any t _ _ (HID.out _ (HUP.out _ (HAB.out _ (bthen H7.out (Below.refl _ _).drew)))) HLEN.out).mono ?_; rintro e w8 ⟨v8, rfl, h8, b8⟩; have q8 := hidI (bthen (Below.refl w7.heap.size w7).drew b8); obtain ⟨p0, p1, p2⟩ := HCX.out _ (bthen H7.out q8.out); obtain ⟨r0, r1, r2⟩ := HCC.out _ (HAB.out _ (bthen H7.out q8.out))) | (go_at_call 18; refine (eqTask_any t _ _ _ (HX4.out _ (bthen H7.out q8.out)) h8).mono ?_; rintro e w9 ⟨rfl, b9⟩; have q9 := hidI (bthen q8.out b9); obtain ⟨s0, s1, s2⟩ := HCX.out _ (bthen H7.out q9.out); obtain ⟨u0, u1, u2⟩ := HCC.out _ (HAB.out _ (bthen H7.out q9.out))))
  have H9 := hidI (bthen H7.out q9.out)
  have OG := hidI (own_belowM OG.out q9.out); have OW9 := hidI (own_belowM OW7.out q9.out)
  clear q9 q8 h8 b8 b9 p0 p1 p2 r0 r1 r2 x0 x1 x2 y0 y1 y2 u0 u1 u2
  go_wp2_with fail
  refine (markTask_any t _ G D w4 _ HT4.out (BX.out.trans (H9.out.mono (by omega))) (Nat.le_trans HLEN.out.2.1 (by omega)) (Nat.le_trans HLEN.out.1 (by omega)) HSUM.out).mono ?_; rintro e w10 ⟨⟨k10, rfl⟩, i10⟩
  have hx9 := H9.out.size
  have OG := hidI (own_inside OG.out i10 (fun k hk => .inr (by have := hGk.out k hk; omega)))
  have OW10 := hidI (own_inside OW9.out i10 (fun k hk => .inl (hWk.out k hk)))
  have B10 : Hid (Below Wb.heap.size Wb w10) := hidI ((HAB.out _ H9.out).trans (Inside.below i10 hBase (by have := (HAB.out _ H9.out).size; omega)))
  have hk10 : ¬ ((k10 : Int) < 0) := by omega
  clear i10 s0 s1 s2
  go_wp2_with fail
  refine (eqIntS_any _ _ _ _ _ (IntS.ofOwn OG.out HI64.out).2 (IntS.ofOwn OW10.out HI64.out).2).mono ?_; rintro e w11 ⟨rfl, n11, rfl⟩
  have b11 := bdraw w10 n11
  have B11 := hidI (bthen B10.out b11)
  have R2 := hidI (own_belowM OW10.out b11); have R4 := hidI (own_belowM OG.out b11)
  simp only [decide_true]
  clear b11
  go_wp2_with fail
  refine (markIntS_q _ _ _ _ 1 _ _ rfl R4.out (by omega) (by omega)).mono ?_; rintro e w12 ⟨rfl, o12, g12⟩
  have B12 := hidI (Below.grown B11.out g12 B11.out.size (fun k hk => by have := hGk.out k hk; have := B5.out.size; omega))
  have T2 := hidI (R2.out.kept g12 (by
    cases e : (Value.slice aw q.length cw).ownBlock with
    | none => exact .inl rfl
    | some k => exact .inr (fun h' => by have h1 := hWk.out k e; have h2 := hGk.out k h'.symm; omega)))
  obtain ⟨hml, j12⟩ := IntS.ofOwn o12 (marks_I64m (by omega))
  rw [marks_length] at hml
  have J12 := hidI j12
  clear o12 g12 hml j12
  go_wp2_with fail
  refine (heldIntS_q _ _ 1 _ _ rfl J12.out (by omega) (by omega)).mono ?_; rintro e w' ⟨rfl, rfl⟩
  obtain ⟨c10, c11, c12⟩ := HCC.out _ B12.out
  go_wp2_with fail
  refine (toTask_any t _ _ (HID.out _ (HUP.out _ B12.out)) HLEN.out).mono ?_; rintro e w13 ⟨v13, rfl, h13, b13⟩
  go_wp2_with fail
  refine (impl_DeedsMay t n _ _ h13).mono ?_; rintro e w14 ⟨ah, ch, rfl, o14, b14⟩
  rw [← HQ.out] at o14 ⊢
  have b1214 := bthen b13 b14
  have B14 := hidI (bthen B12.out b1214)
  have T14 := hidI (own_belowM T2.out b1214); have J14 := hidI (J12.out.below b1214)
  have OH := hidI o14
  clear b13 b14 h13 o14 b1214 c10 c11 c12
  go_wp2_with fail
  refine (eqIntS_any _ _ _ _ _ (IntS.ofOwn OH.out HI64.out).2 (IntS.ofOwn T14.out HI64.out).2).mono ?_; rintro e w15 ⟨rfl, n15, rfl⟩
  have b15 := bdraw w14 n15
  have B15 := hidI (bthen B14.out b15); have J15 := hidI (J14.out.below b15)
  simp only [decide_true]
  clear b15
  go_wp2_with fail
  refine (heldIntS_q _ _ 1 _ _ rfl J15.out (by omega) (by omega)).mono ?_; rintro e w' ⟨rfl, rfl⟩
  go_wp2_with fail
  go_ret
  exact ⟨rfl, HUP.out _ B15.out⟩

set_option maxRecDepth 100000 in
theorem FnExactDeedsMay_lifted (os : Os) (started : os.Started) (H : Type) (enc : TypeId × Value → H) :
    ReturnsInHanded {} Try.checked os 4 .any (Rows.fnExactDeedsMaySpec.pre6 enc Try.prog Try.f4 Rows.fnExactDeedsMayRow.domain false) (Rows.fnExactDeedsMaySpec.post enc Try.prog Try.f4 false true false false) := by
  refine returnsInHanded_of_change (C := Try.checked) own started (by kernel_rfl) Try.func4
    (ChangeSpec.witness6 (enc := enc) (C := Try.checked) false ⟨#[], #[.agg #[.int .i64 0, .slice none 0 0, .slice none 0 0], .int .i64 0], []⟩ 8 (by kernel_rfl) (by kernel_rfl) (by kernel_rfl) (by kernel_rfl)) ?_
  intro W base args ds gs before hval0 hW hcnd _
  have hval : ∀ (j : Nat) t v, Try.f4.params[j]? = some t → args[j]? = some v → Value.okWide Try.prog W .any base t v := hval0
  have hW' := hW
  obtain ⟨p, q, hA0, hV, rfl, hfz, hnd⟩ := hW
  have hA : DataW.TrodAll enc Try.prog W 0 (fun _ => true) true Try.f4.params.toList args.toList ds p := hA0
  rw [Try.params4] at hA hval
  obtain ⟨rfl, rfl⟩ := trodVars_none hV
  clear hA0 hval0
  simp only [List.append_nil] at hW'
  obtain ⟨v0, v1, d0, d1, p0, p1, rfl, rfl, rfl, h0, h1⟩ := trodAll_two hA
  have l0 : ∀ x ∈ p0, x.block < W.heap.size := fun x hx => hW'.lt x (List.mem_append_left _ hx)
  have l1 : ∀ x ∈ p1, x.block < W.heap.size := fun x hx => hW'.lt x (List.mem_append_right _ hx)
  have k0 : ∀ (W' : World), Below W.heap.size W W' → DataW.Trod enc Try.prog W' 0 (fun b => decide (b < W.heap.size)) true 30 v0 d0 p0 := fun W' hn => Below.trod laidOut (by kernel_rfl) (of_decide_eq_true (by kernel_rfl)) h0 hn l0
  have k1 : ∀ (W' : World), Below W.heap.size W W' → DataW.Trod enc Try.prog W' 0 (fun b => decide (b < W.heap.size)) true 3 v1 d1 p1 := fun W' hn => Below.trod laidOut (by kernel_rfl) (of_decide_eq_true (by kernel_rfl)) h1 hn l1
  obtain ⟨d, hd⟩ := open_Task (hval 0 30 v0 rfl rfl) h0 l0
  obtain ⟨n, rfl, _⟩ := open_I64 (hval 1 3 v1 rfl rfl) h1
  refine (FnExactDeedsMay_walk d n v0 W hd).mono fun e W' ⟨he, hb⟩ => ?_
  subst he
  exact ⟨_, rfl, _, _, _, [], _, [], hW', shut_true, trodAll_mk2 (k0 _ hb) (k1 _ hb), rfl, hb.frame _, fun h => by cases h⟩

theorem FnExactDeedsMay_holds : Rows.FnExactDeedsMaySaid :=
  OpenClaim.holds_of_wide 4 Try.f4 rfl rfl rfl rfl rfl rfl rfl ⟨rfl, rfl, rfl, rfl, rfl⟩ rfl rfl rfl rfl rfl (by kernel_rfl) Try.func4 (by kernel_rfl)
    (of_decide_eq_true (by kernel_rfl)) (by unfold Func.isWrapper; first | (rw [if_pos (by decide +kernel)]; kernel_rfl) | (rw [if_neg (by decide +kernel)]; exact ⟨rfl, rfl⟩))
    (fun os started H enc _ => FnExactDeedsMay_lifted os started H enc)
end Go.Proofs.Ytndbfdgflflfpaa
