/- FnExactLeadsTo: for every input the law returns true, and its argument reads as before. -/
import Derived.Test.YtballcjfgdolbaaOpenT
import Derived.Test.YtballcjfgdolbaaReach
import Derived.Outline
namespace Go.Proofs.Ytballcjfgdolbaa
open Go.ChangeShapes Go.WideShapes Go.ChangeAt Go.RowKit

set_option maxHeartbeats 1000000 in
theorem FnExactLeadsTo_walk (t : TaskM)  (v : Value) (w : World) (h : IsTask w v t) :
    Calls Try.prog 12 #[v] w fun e w' => e = .returned (.bool true) ∧ Below w.heap.size w w' := by
  obtain ⟨go, gl, gc, ao, l, cp, hv, hI, hn, hm⟩ := id h
  obtain ⟨Wb, hWb⟩ : ∃ Wb, Wb = w.alloc (.cells #[.int .i64 t.start, .slice go gl gc, .slice ao l cp] 34) := ⟨_, rfl⟩
  have hsz : Wb.heap.size = w.heap.size + 1 := by rw [hWb]; simp
  have ba : Below w.heap.size w Wb := by rw [hWb]; exact (Below.refl w.heap.size w).alloc (Nat.le_refl _) _
  have ID : ∀ W, Below w.heap.size w W → IsTask W (.agg #[.int .i64 t.start, .slice go gl gc, .slice ao l cp]) t := fun W hW => by rw [← hv]; exact h.below hW
  have CC : ∀ W, Below Wb.heap.size Wb W → W.cell? ⟨w.heap.size, 0, none⟩ = some (.int .i64 t.start) ∧ W.cell? ⟨w.heap.size, 1, none⟩ = some (.slice go gl gc) ∧ W.cell? ⟨w.heap.size, 2, none⟩ = some (.slice ao l cp) := fun W hW =>
    ⟨(hW.cell (by simp; omega)).trans (by rw [hWb, cell_new]; rfl), (hW.cell (by simp; omega)).trans (by rw [hWb, cell_new]; rfl), (hW.cell (by simp; omega)).trans (by rw [hWb, cell_new]; rfl)⟩
  subst hv
  have HID := hidI ID; have HCC := hidI CC; have hB := hidI ba; have HW := hidI hWb; have hsZ := hidI hsz; clear ID CC ba
  have hlt : w.heap.size < Wb.heap.size := by omega
  clear hsz hm hn
  go_enter Try.func12, Try.ntmps12
  go_wp2_with fail
  rw [← hWb]; clear hWb
  refine (szTask_any t _ _ (HID.out _ hB.out)).mono ?_; rintro e w1 ⟨rfl, b1⟩
  obtain ⟨c10, c11, c12⟩ := HCC.out _ b1
  have s1 := b1.size
  have B1 := hidI b1; clear b1
  by_cases hneg : szTasks t 1048576 < 0
  · go_wp2_with fail
    go_ret
    exact ⟨rfl, hB.out.trans (B1.out.mono (by omega))⟩
  have HLEN := hidI (szTasks_le hneg)
  have HDL := hidI (show ∀ d ∈ t.deeds, d.need.length ≤ 4000000 from fun d hd => Nat.le_trans (HLEN.out.2.2 d hd) (by omega))
  have HGL := hidI (show t.goal.length ≤ 4000000 from Nat.le_trans HLEN.out.1 (by omega))
  go_wp2_with fail
  refine (toTask_any t _ _ (HID.out _ (hB.out.trans (B1.out.mono (by omega)))) HLEN.out).mono ?_; rintro e w2 ⟨v2, rfl, h2, b2⟩
  have B2 := hidI (bthen B1.out b2); clear b2
  go_wp2_with fail
  refine (spec_LeadsTo t _ _ h2 HGL.out HDL.out).mono ?_; rintro e w3 ⟨rfl, b3⟩
  have B3 := hidI (bthen B2.out b3); clear b3
  obtain ⟨c30, c31, c32⟩ := HCC.out _ B3.out
  have s3 := B3.out.size
  go_wp2_with fail
  refine (toTask_any t _ _ (HID.out _ (hB.out.trans (B3.out.mono (by omega)))) HLEN.out).mono ?_; rintro e w4 ⟨v4, rfl, h4, b4⟩
  have B4 := hidI (bthen B3.out b4); clear b4
  obtain ⟨go4, gl4, gc4, ao4, l4, cp4, hvm, hm⟩ := id h4
  have H4 := hidI h4; clear h4 hm
  rw [hvm]
  have HVM := hidI hvm; clear hvm
  have s4 := B4.out.size
  go_wp2_with fail
  obtain ⟨Wx, hWx⟩ : ∃ Wx, Wx = w4.alloc (.cells #[.int .i64 t.start, .slice go4 gl4 gc4, .slice ao4 l4 cp4] 39) := ⟨_, rfl⟩
  rw [← hWx]
  have hszx : Wx.heap.size = w4.heap.size + 1 := by rw [hWx]; simp
  have bx : Below w4.heap.size w4 Wx := by rw [hWx]; exact (Below.refl _ _).alloc (Nat.le_refl _) _
  have IX : ∀ W, Below Wx.heap.size Wx W → IsTask W (.agg #[.int .i64 t.start, .slice go4 gl4 gc4, .slice ao4 l4 cp4]) t := fun W hW => by rw [← HVM.out]; exact H4.out.below (bx.trans (hW.mono (by omega)))
  have CX : ∀ W, Below Wx.heap.size Wx W → W.cell? ⟨w4.heap.size, 0, none⟩ = some (.int .i64 t.start) ∧ W.cell? ⟨w4.heap.size, 1, none⟩ = some (.slice go4 gl4 gc4) ∧ W.cell? ⟨w4.heap.size, 2, none⟩ = some (.slice ao4 l4 cp4) := fun W hW =>
    ⟨(hW.cell (by simp; omega)).trans (by rw [hWx, cell_new]; rfl), (hW.cell (by simp; omega)).trans (by rw [hWx, cell_new]; rfl), (hW.cell (by simp; omega)).trans (by rw [hWx, cell_new]; rfl)⟩
  have HIX := hidI IX; have HCX := hidI CX; have B5 := hidI (bthen B4.out bx); clear IX CX bx
  have HSX := hidI hszx; clear hszx
  have HWX := hidI hWx; clear hWx
  refine (impl_LeadsTo t _ _ (HIX.out _ (Below.refl _ _))).mono ?_; rintro e w6 ⟨rfl, b6⟩
  have H6 := hidI b6; clear b6
  have AB : ∀ W, Below Wx.heap.size Wx W → Below Wb.heap.size Wb W := fun W hW => bthen B5.out hW
  have HAB := hidI AB; clear AB
  obtain ⟨x0, x1, x2⟩ := HCX.out _ H6.out
  obtain ⟨y0, y1, y2⟩ := HCC.out _ (HAB.out _ H6.out)
  go_wp2_with fail
  go_region_held3 (fun W => W.cell? ⟨w4.heap.size, 0, none⟩ = some (.int .i64 t.start) ∧ W.cell? ⟨w4.heap.size, 1, none⟩ = some (.slice go4 gl4 gc4) ∧ W.cell? ⟨w4.heap.size, 2, none⟩ = some (.slice ao4 l4 cp4) ∧ W.cell? ⟨w.heap.size, 0, none⟩ = some (.int .i64 t.start) ∧ W.cell? ⟨w.heap.size, 1, none⟩ = some (.slice go gl gc) ∧ W.cell? ⟨w.heap.size, 2, none⟩ = some (.slice ao l cp) ∧ Hid (Below Wx.heap.size Wx W))
    (first | exact ⟨x0, x1, x2, y0, y1, y2, hidI H6.out.drew⟩ | (refine ⟨?_, ?_, ?_, ?_, ?_, ?_, ?_⟩ <;> assumption))
    (first | (go_at_call 27; refine (toTask_any t _ _ (HID.out _ ((hB.out.trans ((HAB.out _ H6.out).mono (by omega))).drew)) HLEN.out).mono ?_; rintro e w7 ⟨v7, rfl, h7, b7⟩; have q7 := hidI (bthen H6.out.drew b7); obtain ⟨p0, p1, p2⟩ := HCX.out _ q7.out; obtain ⟨q0, q1, q2⟩ := HCC.out _ (HAB.out _ q7.out)) | (go_at_call 29; refine (eqTask_any t _ _ _ (HIX.out _ q7.out) h7).mono ?_; rintro e w8 ⟨rfl, b8⟩; have q8 := hidI (bthen q7.out b8); obtain ⟨r0, r1, r2⟩ := HCX.out _ q8.out; obtain ⟨t0, t1, t2⟩ := HCC.out _ (HAB.out _ q8.out)))
  go_wp2_with fail
  go_ret
  exact ⟨rfl, hB.out.trans ((HAB.out _ q8.out).mono (by omega))⟩

set_option maxRecDepth 100000 in
theorem FnExactLeadsTo_lifted (os : Os) (started : os.Started) (H : Type) (enc : TypeId × Value → H) :
    ReturnsInHanded {} Try.checked os 12 .any (Rows.fnExactLeadsToSpec.pre6 enc Try.prog Try.f12 Rows.fnExactLeadsToRow.domain false) (Rows.fnExactLeadsToSpec.post enc Try.prog Try.f12 false true false false) := by
  refine returnsInHanded_of_change (C := Try.checked) own started (by kernel_rfl) Try.func12
    (ChangeSpec.witness6 (enc := enc) (C := Try.checked) false ⟨#[], #[.agg #[.int .i64 0, .slice none 0 0, .slice none 0 0]], []⟩ 8 (by kernel_rfl) (by kernel_rfl) (by kernel_rfl) (by kernel_rfl)) ?_
  intro W base args ds gs before hval0 hW hcnd _
  have hval : ∀ (j : Nat) t v, Try.f12.params[j]? = some t → args[j]? = some v → Value.okWide Try.prog W .any base t v := hval0
  have hW' := hW
  obtain ⟨p, q, hA0, hV, rfl, hfz, hnd⟩ := hW
  have hA : DataW.TrodAll enc Try.prog W 0 (fun _ => true) true Try.f12.params.toList args.toList ds p := hA0
  rw [Try.params12] at hA hval
  obtain ⟨rfl, rfl⟩ := trodVars_none hV
  clear hA0 hval0
  simp only [List.append_nil] at hW'
  obtain ⟨v0, d0, rfl, rfl, h0⟩ := trodAll_one hA
  have l0 : ∀ x ∈ p, x.block < W.heap.size := fun x hx => by simpa using hW'.lt x hx
  have k0 : ∀ (W' : World), Below W.heap.size W W' → DataW.Trod enc Try.prog W' 0 (fun b => decide (b < W.heap.size)) true 34 v0 d0 p := fun W' hn => Below.trod laidOut (by kernel_rfl) (of_decide_eq_true (by kernel_rfl)) h0 hn l0
  obtain ⟨d, hd⟩ := open_Task (hval 0 34 v0 rfl rfl) h0 l0
  refine (FnExactLeadsTo_walk d v0 W hd).mono fun e W' ⟨he, hb⟩ => ?_
  subst he
  exact ⟨_, rfl, _, _, _, [], _, [], hW', shut_true, trodAll_mk1 (k0 _ hb), rfl, hb.frame _, fun h => by cases h⟩

theorem FnExactLeadsTo_holds : Rows.FnExactLeadsToSaid :=
  OpenClaim.holds_of_wide 12 Try.f12 rfl rfl rfl rfl rfl rfl rfl ⟨rfl, rfl, rfl, rfl, rfl⟩ rfl rfl rfl rfl rfl (by kernel_rfl) Try.func12 (by kernel_rfl)
    (of_decide_eq_true (by kernel_rfl)) (by unfold Func.isWrapper; first | (rw [if_pos (by decide +kernel)]; kernel_rfl) | (rw [if_neg (by decide +kernel)]; exact ⟨rfl, rfl⟩))
    (fun os started H enc _ => FnExactLeadsTo_lifted os started H enc)
end Go.Proofs.Ytballcjfgdolbaa
