/- FnDeedValid: for every input the law returns true, and its argument reads as before. -/
import Derived.Test.YtobpikjegfiklaaOpenB
import Derived.Test.YtobpikjegfiklaaDrawD
import Derived.Test.YtobpikjegfiklaaAlive
import Derived.Deep.DeepFit
import Derived.Outline
namespace Go.Proofs.Ytobpikjegfiklaa
open Go.ChangeShapes Go.WideShapes Go.ChangeAt Go.RowKit

theorem deed_quiet {zs : List Int} {a b c : Int} (h : deedValid ⟨zs, a, b, c⟩ = true) : deedValid ⟨zs, 0, 0, 0⟩ = true := by
  unfold deedValid at h ⊢
  simp only [Bool.and_eq_true] at h
  simp only [h.1.1.1.1.1.1]
  rfl

theorem deed_twice (zs : List Int) : deedValid ⟨zs, 1, 1, 0⟩ = false := by
  unfold deedValid
  have : apartS 1 1 = false := by decide
  simp only [this, Bool.and_false, Bool.false_and]

set_option maxRecDepth 100000 in
set_option maxHeartbeats 1000000 in
theorem FnDeedValid_walk (n : Nat) (v : Value) (w : World) (h : BytS w w.heap.size v n) :
    Calls Try.prog 5 #[v] w fun e w' => e = .returned (.bool true) ∧ Below w.heap.size w w' := by
  obtain ⟨bao, bcap, hv⟩ : ∃ ao cap, v = .slice ao n cap := by obtain ⟨ao, cap, h1, _⟩ := h; exact ⟨ao, cap, h1⟩
  subst hv
  have HV := hidI h; clear h
  by_cases hbig : 1048576 < n
  · go_enter Try.func5, Try.ntmps5
    go_wp2_with fail
    go_ret
    exact ⟨rfl, Below.refl _ _⟩
  have hbig2 : (n : Int) ≤ 1048576 := by omega
  go_enter Try.func5, Try.ntmps5
  go_wp2_with fail
  go_fit (spec_DrawDeedValid n _ w HV.out); rintro e w1 ⟨g, m, cap, a, b, c, zs, rfl, hm, hz, hi, ha, hb, hc, b1⟩
  have HD : Hid (DBlk (w1.alloc (.cells #[.slice (some ⟨g, 0, none⟩) m cap, .int .i64 a, .int .i64 b, .int .i64 c] 30)) w1.heap.size (.slice (some ⟨g, 0, none⟩) m cap) a b c) := heap_alloc_new w1 _
  have HB := hidI (b1.alloc b1.size (.cells #[.slice (some ⟨g, 0, none⟩) m cap, .int .i64 a, .int .i64 b, .int .i64 c] 30))
  have HI := hidI (hi.below ((Below.refl _ _).alloc (Nat.le_refl _) (.cells #[.slice (some ⟨g, 0, none⟩) m cap, .int .i64 a, .int .i64 b, .int .i64 c] 30)))
  have hzl : zs.length ≤ 4000000 := by omega
  have IS : ∀ (W : World) (x y z : Int), IntS W (.slice (some ⟨g, 0, none⟩) m cap) zs → I64 x → I64 y → I64 z → IsDeed W (.agg #[.slice (some ⟨g, 0, none⟩) m cap, .int .i64 x, .int .i64 y, .int .i64 z]) ⟨zs, x, y, z⟩ := fun W x y z h hx hy hz => ⟨_, _, _, rfl, h, hx, hy, hz⟩
  have HS := hidI IS; have HA := hidI ha.i64; have HBb := hidI hb.i64; have HCc := hidI hc.i64
  have HZ := hidI hz
  clear hi b1 IS ha hb hc hz
  go_wp2_with fail
  obtain ⟨wd, hwd⟩ : ∃ wd, wd = w1.alloc (.cells #[.slice (some ⟨g, 0, none⟩) m cap, .int .i64 a, .int .i64 b, .int .i64 c] 30) := ⟨_, rfl⟩
  obtain ⟨D, hD⟩ : ∃ D, D = w1.heap.size := ⟨_, rfl⟩
  rw [← hwd] at HD HB HI ⊢
  rw [← hD] at HD
  try rw [← hD]
  clear hwd hD
  go_fit (impl_DeedValid ⟨zs, a, b, c⟩ _ wd (HS.out wd a b c HI.out HA.out HBb.out HCc.out)); rintro e w2 ⟨rfl, b2⟩
  have HD := hidI ((b2.block D HD.out.lt).trans HD.out); have HB := hidI (bthen HB.out b2); have HI := hidI (HI.out.below b2); clear b2
  obtain ⟨d0, d1, d2, d3⟩ := DBlk.cells HD.out
  go_wp2_with fail
  go_fit (spec_DeedValid ⟨zs, a, b, c⟩ _ w2 (HS.out w2 a b c HI.out HA.out HBb.out HCc.out) hzl); rintro e w3 ⟨rfl, b3⟩
  have HD := hidI ((b3.block D (DBlk.lt HD.out)).trans HD.out); have HB := hidI (bthen HB.out b3); have HI := hidI (HI.out.below b3); clear b3 d0 d1 d2 d3
  obtain ⟨d0, d1, d2, d3⟩ := DBlk.cells HD.out
  have H2 := hidI (deed_twice zs)
  cases hv : deedValid ⟨zs, a, b, c⟩
  · clear hv
    go_wp2_with fail
    go_fit (impl_DeedValid ⟨zs, 1, 1, 0⟩ _ w3 (HS.out w3 1 1 0 HI.out (by unfold I64; omega) (by unfold I64; omega) (by unfold I64; omega))); rintro e w4 ⟨rfl, b4⟩
    rw [H2.out]
    have HB := hidI (bthen HB.out b4); clear b4
    go_wp2_with fail
    go_fit (laws_alive w4); rintro e w5 ⟨rfl, b5⟩
    go_wp2_with fail
    go_ret
    exact ⟨rfl, bthen HB.out b5⟩
  · have H1 := hidI (deed_quiet hv)
    clear hv
    go_wp2_with fail
    go_fit (impl_DeedValid ⟨zs, 0, 0, 0⟩ _ w3 (HS.out w3 0 0 0 HI.out (by unfold I64; omega) (by unfold I64; omega) (by unfold I64; omega))); rintro e w4 ⟨rfl, b4⟩
    rw [H1.out]
    have HD := hidI ((b4.block D (DBlk.lt HD.out)).trans HD.out); have HB := hidI (bthen HB.out b4); have HI := hidI (HI.out.below b4); clear b4 d0 d1 d2 d3
    obtain ⟨d0, d1, d2, d3⟩ := DBlk.cells HD.out
    go_wp2_with fail
    go_fit (impl_DeedValid ⟨zs, 1, 1, 0⟩ _ w4 (HS.out w4 1 1 0 HI.out (by unfold I64; omega) (by unfold I64; omega) (by unfold I64; omega))); rintro e w5 ⟨rfl, b5⟩
    rw [H2.out]
    have HB := hidI (bthen HB.out b5); clear b5
    go_wp2_with fail
    go_fit (laws_alive w5); rintro e w6 ⟨rfl, b6⟩
    go_wp2_with fail
    go_ret
    exact ⟨rfl, bthen HB.out b6⟩

set_option maxRecDepth 100000 in
theorem FnDeedValid_lifted (os : Os) (started : os.Started) (H : Type) (enc : TypeId × Value → H) :
    ReturnsInHanded {} Try.checked os 5 .any (Rows.fnDeedValidSpec.pre6 enc Try.prog Try.f5 Rows.fnDeedValidRow.domain false) (Rows.fnDeedValidSpec.post enc Try.prog Try.f5 false true false false) := by
  refine returnsInHanded_of_change (C := Try.checked) own started (by kernel_rfl) Try.func5
    (ChangeSpec.witness6 (enc := enc) (C := Try.checked) false ⟨#[], #[.slice none 0 0], []⟩ 8 (by kernel_rfl) (by kernel_rfl) (by kernel_rfl) (by kernel_rfl)) ?_
  intro W base args ds gs before hval0 hW hcnd _
  have hval : ∀ (j : Nat) t v, Try.f5.params[j]? = some t → args[j]? = some v → Value.okWide Try.prog W .any base t v := hval0
  have hW' := hW
  obtain ⟨p, q, hA0, hV, rfl, hfz, hnd⟩ := hW
  have hA : DataW.TrodAll enc Try.prog W 0 (fun _ => true) true Try.f5.params.toList args.toList ds p := hA0
  rw [Try.params5] at hA hval
  obtain ⟨rfl, rfl⟩ := trodVars_none hV
  clear hA0 hval0
  simp only [List.append_nil] at hW'
  obtain ⟨v0, d0, rfl, rfl, h0⟩ := trodAll_one hA
  have l0 : ∀ x ∈ p, x.block < W.heap.size := fun x hx => by simpa using hW'.lt x hx
  have k0 : ∀ (W' : World), Below W.heap.size W W' → DataW.Trod enc Try.prog W' 0 (fun b => decide (b < W.heap.size)) true 22 v0 d0 p := fun W' hn => Below.trod laidOut (by kernel_rfl) (of_decide_eq_true (by kernel_rfl)) h0 hn l0
  obtain ⟨n, hn⟩ := open_BytS (hval 0 22 v0 rfl rfl) h0 l0
  refine (FnDeedValid_walk n v0 W hn).mono fun e W' ⟨he, hb⟩ => ?_
  subst he
  exact ⟨_, rfl, _, _, _, [], _, [], hW', shut_true, trodAll_mk1 (k0 _ hb), rfl, hb.frame _, fun h => by cases h⟩

theorem FnDeedValid_holds : Rows.FnDeedValidSaid :=
  OpenClaim.holds_of_wide 5 Try.f5 rfl rfl rfl rfl rfl rfl rfl ⟨rfl, rfl, rfl, rfl, rfl⟩ rfl rfl rfl rfl rfl (by kernel_rfl) Try.func5 (by kernel_rfl)
    (of_decide_eq_true (by kernel_rfl)) (by unfold Func.isWrapper; first | (rw [if_pos (by decide +kernel)]; kernel_rfl) | (rw [if_neg (by decide +kernel)]; exact ⟨rfl, rfl⟩))
    (fun os started H enc _ => FnDeedValid_lifted os started H enc)
end Go.Proofs.Ytobpikjegfiklaa
