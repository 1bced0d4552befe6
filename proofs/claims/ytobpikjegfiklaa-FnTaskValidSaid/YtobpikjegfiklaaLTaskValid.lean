/- FnTaskValid: for every input the law returns true, and its argument reads as before. -/
import Derived.Test.YtobpikjegfiklaaOpenB
import Derived.Test.YtobpikjegfiklaaDrawV
import Derived.Test.YtobpikjegfiklaaPlan
import Derived.Test.YtobpikjegfiklaaAlive
import Derived.Deep.DeepFit
import Derived.Deep.RegionHeld3
import Derived.Outline
namespace Go.Proofs.Ytobpikjegfiklaa
open Go.ChangeShapes Go.WideShapes Go.ChangeAt Go.RowKit

theorem deeds_tail {w : World} {b off l cp : Nat} {ds : List DeedM} (h : DeedS w (.slice (some ⟨b, off, none⟩) l cp) ds) (hl : 1 ≤ l) : DeedS w (.slice (some ⟨b, off + 4, none⟩) (l - 1) (cp - 1)) ds.tail := by
  obtain ⟨ao, cap, e, h1, h2, h3⟩ := h
  injection e with e1 e2 e3
  subst e2; subst e3
  refine ⟨_, _, by rw [List.length_tail], by rw [List.length_tail]; omega, by unfold maxLen at *; omega, ?_⟩
  rcases h3 with ⟨h3, _⟩ | ⟨b', off', e4, h4, h5⟩
  · rw [h3] at hl; simp at hl
  · rw [e4] at e1; injection e1 with e1; injection e1 with p1 p2 _; subst p1; subst p2
    refine .inr ⟨b, off + 4, rfl, h4, fun k d hk => ?_⟩
    obtain ⟨so, l', cp', c0, c1, c2, c3, c4⟩ := h5 (k + 1) d (by simpa using hk)
    have e0 : off + 4 + k * 4 = off + (k + 1) * 4 := by omega
    rw [e0]
    exact ⟨so, l', cp', c0, c1, c2, c3, c4⟩

theorem valid_tail {t : TaskM} (h : taskValid t = true) : taskValid ⟨t.start, t.goal, t.deeds.tail⟩ = true := by
  obtain ⟨h1, h2, h3, h4⟩ := taskValid_parts h
  unfold taskValid
  simp only [h1, h2, Bool.true_and, Bool.and_eq_true, decide_eq_true_eq, List.all_eq_true]
  exact ⟨by rw [List.length_tail]; omega, fun d hd => h4 d (List.mem_of_mem_tail hd)⟩

set_option maxRecDepth 100000 in
set_option maxHeartbeats 2000000 in
theorem FnTaskValid_walk (n : Nat) (v : Value) (w : World) (h : BytS w w.heap.size v n) :
    Calls Try.prog 7 #[v] w fun e w' => e = .returned (.bool true) ∧ Below w.heap.size w w' := by
  obtain ⟨bao, bcap, hv⟩ : ∃ ao cap, v = .slice ao n cap := by obtain ⟨ao, cap, h1, _⟩ := h; exact ⟨ao, cap, h1⟩
  subst hv
  have HV := hidI h; clear h
  by_cases hbig : 1048576 < n
  · go_enter Try.func7, Try.ntmps7
    go_wp2_with fail
    go_ret
    exact ⟨rfl, Below.refl _ _⟩
  have hbig2 : (n : Int) ≤ 1048576 := by omega
  go_enter Try.func7, Try.ntmps7
  go_wp2_with fail
  go_fit (spec_DrawTaskValid n _ w HV.out); rintro e w1 ⟨s, g, m, cap, l, cp, ao, t, rfl, hd, b1⟩
  have HD : Hid (Drawn w1 s g m cap l cp ao t) := hd
  have HT : Hid (TBlk (w1.alloc (.cells #[.int .i64 s, .slice (some ⟨g, 0, none⟩) m cap, .slice ao l cp] 35)) w1.heap.size s (.slice (some ⟨g, 0, none⟩) m cap) (.slice ao l cp)) := heap_alloc_new w1 _
  have HB := hidI (b1.alloc b1.size (.cells #[.int .i64 s, .slice (some ⟨g, 0, none⟩) m cap, .slice ao l cp] 35))
  have HD := hidI (HD.out.below ((Below.refl _ _).alloc (Nat.le_refl _) (.cells #[.int .i64 s, .slice (some ⟨g, 0, none⟩) m cap, .slice ao l cp] 35)))
  have hl7 : l ≤ 7 := hd.2.2.2.2.2.1
  have hgl : t.goal.length ≤ 4000000 := by have := hd.2.2.1; have := hd.2.2.2.1; omega
  have hdl : ∀ d ∈ t.deeds, d.need.length ≤ 4000000 := fun d hdd => Nat.le_trans (hd.2.2.2.2.2.2 d hdd) (by omega)
  have hlen := hd.2.2.2.2.1
  have hst := hd.2.1
  clear hd b1
  obtain ⟨wd, hwd⟩ : ∃ wd, wd = w1.alloc (.cells #[.int .i64 s, .slice (some ⟨g, 0, none⟩) m cap, .slice ao l cp] 35) := ⟨_, rfl⟩
  obtain ⟨T, hTT⟩ : ∃ T, T = w1.heap.size := ⟨_, rfl⟩
  have HGL := hidI hgl; have HDL := hidI hdl; have HLN := hidI hlen; have HST := hidI hst
  clear hgl hdl hlen hst
  go_wp2_with fail
  rw [← hwd] at HT HB HD ⊢
  rw [← hTT] at HT
  try rw [← hTT]
  clear hwd hTT
  go_fit (impl_TaskValid t _ wd HD.out.1); rintro e w2 ⟨rfl, b2⟩
  have HT := hidI ((b2.block T (Array.getElem?_eq_some_iff.1 HT.out).1).trans HT.out); have HB := hidI (bthen HB.out b2); have HD := hidI (HD.out.below b2)
  obtain ⟨t0, t1, t2⟩ := TBlk.cells HT.out
  clear b2
  go_wp2_with fail
  go_fit (spec_TaskValid t _ w2 HD.out.1 HGL.out HDL.out); rintro e w3 ⟨rfl, b3⟩
  have HT := hidI ((b3.block T (Array.getElem?_eq_some_iff.1 HT.out).1).trans HT.out); have HB := hidI (bthen HB.out b3); have HD := hidI (HD.out.below b3)
  clear t0 t1 t2 b3
  obtain ⟨t0, t1, t2⟩ := TBlk.cells HT.out
  cases hv : taskValid t
  · clear hv
    go_wp2_with fail
    go_fit (laws_alive w3); rintro e w5 ⟨rfl, b5⟩
    go_wp2_with fail
    go_ret
    exact ⟨rfl, bthen HB.out b5⟩
  have HVT := hidI (valid_tail hv)
  clear hv
  rcases Nat.eq_zero_or_pos l with rfl | hl1
  · go_wp2_with fail
    go_fit (laws_alive w3); rintro e w5 ⟨rfl, b5⟩
    go_wp2_with fail
    go_ret
    exact ⟨rfl, bthen HB.out b5⟩
  have hl0 : ((l : Int) == 0) = false := by simp; omega
  have hl2 : (1 : Int) ≤ l := by omega
  obtain ⟨b, off, hao⟩ : ∃ b off, ao = some ⟨b, off, none⟩ := by
    obtain ⟨go, gl, gc, ao', l', cp', e, h2, h3, h4⟩ := HD.out.1
    injection e with e; injection e with e; injection e with _ e; injection e with _ e; injection e with e; injection e with e1 e2 e3
    obtain ⟨ao2, cap2, e4, h5, h6, h7⟩ := h4
    injection e4 with q1 q2 q3
    rcases h7 with ⟨h7, _⟩ | ⟨b, off, h8, _⟩
    · rw [h7] at q2; simp at q2; omega
    · exact ⟨b, off, by rw [e1, q1, h8]⟩
  subst hao
  have HTL : Hid (IsTask w3.drew (.agg #[.int .i64 s, .slice (some ⟨g, 0, none⟩) m cap, .slice (if cp = 1 then some ⟨b, off, none⟩ else some ⟨b, off + 4, none⟩) (l - 1) (cp - 1)]) ⟨t.start, t.goal, t.deeds.tail⟩) := by
    obtain ⟨go, gl, gc, ao', l', cp', e, h2, h3, h4⟩ := HD.out.1
    injection e with e; injection e with e; injection e with q1 e; injection e with q2 e; injection e with q3
    injection q2 with r1 r2 r3
    injection q3 with s1 s2 s3
    subst r1; subst r2; subst r3; subst s1; subst s2; subst s3
    refine ⟨_, _, _, _, _, _, by rw [q1], h2, h3.below (Below.refl _ _).drew, ?_⟩
    split
    · rename_i hc1
      obtain ⟨ao2, cap2, e4, h5, h6, h7⟩ := h4
      injection e4 with u1 u2 u3
      have hnil : t.deeds.tail = [] := List.eq_nil_of_length_eq_zero (by rw [List.length_tail]; omega)
      exact ⟨_, _, by rw [hnil, show l - 1 = 0 by omega]; rfl, by rw [hnil]; simp, by unfold maxLen at *; omega, .inl ⟨hnil, fun e => by cases e⟩⟩
    · exact (deeds_tail h4 (by omega)).below (Below.refl _ _).drew
  have hcp : l ≤ cp := by
    obtain ⟨go, gl, gc, ao', l', cp', e, h2, h3, h4⟩ := HD.out.1
    injection e with e; injection e with e; injection e with q1 e; injection e with q2 e; injection e with q3
    injection q3 with s1 s2 s3
    obtain ⟨ao2, cap2, e4, h5, h6, h7⟩ := h4
    injection e4 with q1 q2 q3
    omega
  have hcp2 : cp ≤ 9223372036854775807 := by
    obtain ⟨go, gl, gc, ao', l', cp', e, h2, h3, h4⟩ := HD.out.1
    injection e with e; injection e with e; injection e with q1 e; injection e with q2 e; injection e with q3
    injection q3 with s1 s2 s3
    obtain ⟨ao2, cap2, e4, h5, h6, h7⟩ := h4
    injection e4 with q1 q2 q3
    unfold maxLen at h6; omega
  by_cases hc1 : cp = 1
  · subst hc1
    have HTL : Hid (IsTask w3.drew (.agg #[.int .i64 s, .slice (some ⟨g, 0, none⟩) m cap, .slice (some ⟨b, off, none⟩) (l - 1) 0]) ⟨t.start, t.goal, t.deeds.tail⟩) := HTL
    obtain rfl : l = 1 := by omega
    have HTL : Hid (IsTask w3.drew (.agg #[.int .i64 s, .slice (some ⟨g, 0, none⟩) m cap, .slice (some ⟨b, off, none⟩) 0 0]) ⟨t.start, t.goal, t.deeds.tail⟩) := HTL
    go_wp2_with fail
    have HW := hidI (show Below w3.heap.size w3 w3.drew from (Below.refl _ _).drew)
    go_region_held3 (fun W => W.cell? ⟨T, 0, none⟩ = some (.int .i64 s) ∧ W.cell? ⟨T, 1, none⟩ = some (.slice (some ⟨g, 0, none⟩) m cap) ∧ W.cell? ⟨T, 2, none⟩ = some (.slice (some ⟨b, off, none⟩) 1 1)) (first | exact ⟨t0, t1, t2⟩ | (refine ⟨?_, ?_, ?_⟩ <;> assumption)) (first | (go_at_call 28; go_fit (impl_TaskValid ⟨t.start, t.goal, t.deeds.tail⟩ _ _ HTL.out); rintro e w5 ⟨rfl, b5⟩; rw [HVT.out]; have q5 := hidI (bthen HW.out b5); have HT5 := hidI ((q5.out.block T (Array.getElem?_eq_some_iff.1 HT.out).1).trans HT.out); obtain ⟨y0, y1, y2⟩ := TBlk.cells HT5.out; clear b5) | fail)
    go_wp2_with fail
    go_ret
    exact ⟨rfl, bthen HB.out q5.out⟩
  · rw [if_neg hc1] at HTL
    go_wp2_with fail
    have HW := hidI (show Below w3.heap.size w3 w3.drew from (Below.refl _ _).drew)
    go_region_held3 (fun W => W.cell? ⟨T, 0, none⟩ = some (.int .i64 s) ∧ W.cell? ⟨T, 1, none⟩ = some (.slice (some ⟨g, 0, none⟩) m cap) ∧ W.cell? ⟨T, 2, none⟩ = some (.slice (some ⟨b, off, none⟩) l cp)) (first | exact ⟨t0, t1, t2⟩ | (refine ⟨?_, ?_, ?_⟩ <;> assumption)) (first | (go_at_call 28; go_fit (impl_TaskValid ⟨t.start, t.goal, t.deeds.tail⟩ _ _ HTL.out); rintro e w5 ⟨rfl, b5⟩; rw [HVT.out]; have q5 := hidI (bthen HW.out b5); have HT5 := hidI ((q5.out.block T (Array.getElem?_eq_some_iff.1 HT.out).1).trans HT.out); obtain ⟨y0, y1, y2⟩ := TBlk.cells HT5.out; clear b5) | fail)
    go_wp2_with fail
    go_ret
    exact ⟨rfl, bthen HB.out q5.out⟩

set_option maxRecDepth 100000 in
theorem FnTaskValid_lifted (os : Os) (started : os.Started) (H : Type) (enc : TypeId × Value → H) :
    ReturnsInHanded {} Try.checked os 7 .any (Rows.fnTaskValidSpec.pre6 enc Try.prog Try.f7 Rows.fnTaskValidRow.domain false) (Rows.fnTaskValidSpec.post enc Try.prog Try.f7 false true false false) := by
  refine returnsInHanded_of_change (C := Try.checked) own started (by kernel_rfl) Try.func7
    (ChangeSpec.witness6 (enc := enc) (C := Try.checked) false ⟨#[], #[.slice none 0 0], []⟩ 8 (by kernel_rfl) (by kernel_rfl) (by kernel_rfl) (by kernel_rfl)) ?_
  intro W base args ds gs before hval0 hW hcnd _
  have hval : ∀ (j : Nat) t v, Try.f7.params[j]? = some t → args[j]? = some v → Value.okWide Try.prog W .any base t v := hval0
  have hW' := hW
  obtain ⟨p, q, hA0, hV, rfl, hfz, hnd⟩ := hW
  have hA : DataW.TrodAll enc Try.prog W 0 (fun _ => true) true Try.f7.params.toList args.toList ds p := hA0
  rw [Try.params7] at hA hval
  obtain ⟨rfl, rfl⟩ := trodVars_none hV
  clear hA0 hval0
  simp only [List.append_nil] at hW'
  obtain ⟨v0, d0, rfl, rfl, h0⟩ := trodAll_one hA
  have l0 : ∀ x ∈ p, x.block < W.heap.size := fun x hx => by simpa using hW'.lt x hx
  have k0 : ∀ (W' : World), Below W.heap.size W W' → DataW.Trod enc Try.prog W' 0 (fun b => decide (b < W.heap.size)) true 22 v0 d0 p := fun W' hn => Below.trod laidOut (by kernel_rfl) (of_decide_eq_true (by kernel_rfl)) h0 hn l0
  obtain ⟨n, hn⟩ := open_BytS (hval 0 22 v0 rfl rfl) h0 l0
  refine (FnTaskValid_walk n v0 W hn).mono fun e W' ⟨he, hb⟩ => ?_
  subst he
  exact ⟨_, rfl, _, _, _, [], _, [], hW', shut_true, trodAll_mk1 (k0 _ hb), rfl, hb.frame _, fun h => by cases h⟩

theorem FnTaskValid_holds : Rows.FnTaskValidSaid :=
  OpenClaim.holds_of_wide 7 Try.f7 rfl rfl rfl rfl rfl rfl rfl ⟨rfl, rfl, rfl, rfl, rfl⟩ rfl rfl rfl rfl rfl (by kernel_rfl) Try.func7 (by kernel_rfl)
    (of_decide_eq_true (by kernel_rfl)) (by unfold Func.isWrapper; first | (rw [if_pos (by decide +kernel)]; kernel_rfl) | (rw [if_neg (by decide +kernel)]; exact ⟨rfl, rfl⟩))
    (fun os started H enc _ => FnTaskValid_lifted os started H enc)
end Go.Proofs.Ytobpikjegfiklaa
