/- FnDeedDo: for every input the law returns true, and its argument reads as before. -/
import Derived.Test.YtobpikjegfiklaaOpenB
import Derived.Test.YtobpikjegfiklaaDrawD
import Derived.Test.YtobpikjegfiklaaDeedP
import Derived.Test.YtobpikjegfiklaaLawH
import Derived.Test.YtobpikjegfiklaaAlive
import Derived.Deep.DeepFit
import Derived.Deep.RegionHeld3
import Derived.Outline
namespace Go.Proofs.Ytobpikjegfiklaa
open Go.ChangeShapes Go.WideShapes Go.ChangeAt Go.RowKit

set_option maxRecDepth 100000 in
set_option maxHeartbeats 2000000 in
theorem FnDeedDo_walk (n : Nat) (v : Value) (w : World) (h : BytS w w.heap.size v n) :
    Calls Try.prog 10 #[v] w fun e w' => e = .returned (.bool true) ∧ Below w.heap.size w w' := by
  obtain ⟨bao, bcap, hv⟩ : ∃ ao cap, v = .slice ao n cap := by obtain ⟨ao, cap, h1, _⟩ := h; exact ⟨ao, cap, h1⟩
  subst hv
  have HV := hidI h; clear h
  by_cases hbig : 1048576 < n
  · go_enter Try.func10, Try.ntmps10
    go_wp2_with fail
    go_ret
    exact ⟨rfl, Below.refl _ _⟩
  have hbig2 : (n : Int) ≤ 1048576 := by omega
  go_enter Try.func10, Try.ntmps10
  go_wp2_with fail
  go_fit (spec_DrawDeedDo n _ w HV.out); rintro e w1 ⟨g, m, cap, a, b, c, zs, s, rfl, hs1, hs2, hm, hz, hi, ha, hb, hc, b1⟩
  have HD : Hid (DBlk (w1.alloc (.cells #[.slice (some ⟨g, 0, none⟩) m cap, .int .i64 a, .int .i64 b, .int .i64 c] 30)) w1.heap.size (.slice (some ⟨g, 0, none⟩) m cap) a b c) := heap_alloc_new w1 _
  have HB := hidI (b1.alloc b1.size (.cells #[.slice (some ⟨g, 0, none⟩) m cap, .int .i64 a, .int .i64 b, .int .i64 c] 30))
  have HI := hidI (hi.below ((Below.refl _ _).alloc (Nat.le_refl _) (.cells #[.slice (some ⟨g, 0, none⟩) m cap, .int .i64 a, .int .i64 b, .int .i64 c] 30)))
  have hzl : zs.length ≤ 4000000 := by omega
  have IS : ∀ (W : World), IntS W (.slice (some ⟨g, 0, none⟩) m cap) zs → IsDeed W (.agg #[.slice (some ⟨g, 0, none⟩) m cap, .int .i64 a, .int .i64 b, .int .i64 c]) ⟨zs, a, b, c⟩ := fun W h => ⟨_, _, _, rfl, h, ha.i64, hb.i64, hc.i64⟩
  have HS := hidI IS
  have HZ := hidI hz
  clear hi b1 IS ha hb hc hz
  go_wp2_with fail
  obtain ⟨wd, hwd⟩ : ∃ wd, wd = w1.alloc (.cells #[.slice (some ⟨g, 0, none⟩) m cap, .int .i64 a, .int .i64 b, .int .i64 c] 30) := ⟨_, rfl⟩
  obtain ⟨D, hD⟩ : ∃ D, D = w1.heap.size := ⟨_, rfl⟩
  rw [← hwd] at HD HB HI ⊢
  rw [← hD] at HD
  try rw [← hD]
  clear hwd hD
  go_fit (impl_DeedDo ⟨zs, a, b, c⟩ s _ wd (HS.out wd HI.out)); rintro e w2 ⟨rfl, b2⟩
  have HD := hidI ((b2.block D HD.out.lt).trans HD.out); have HB := hidI (bthen HB.out b2); have HI := hidI (HI.out.below b2); clear b2
  obtain ⟨d0, d1, d2, d3⟩ := DBlk.cells HD.out
  go_wp2_with fail
  go_fit (spec_DeedDo ⟨zs, a, b, c⟩ s _ w2 (HS.out w2 HI.out) hzl); rintro e w3 ⟨rfl, b3⟩
  have HD := hidI ((b3.block D (DBlk.lt HD.out)).trans HD.out); have HB := hidI (bthen HB.out b3); have HI := hidI (HI.out.below b3); clear b3 d0 d1 d2 d3
  obtain ⟨d0, d1, d2, d3⟩ := DBlk.cells HD.out
  by_cases hneg : deedDo ⟨zs, a, b, c⟩ s = -1
  · have HN := hidI hneg; clear hneg
    rw [HN.out]
    go_wp2_with fail
    go_fit (laws_alive w3); rintro e w5 ⟨rfl, b5⟩
    go_wp2_with fail
    go_ret
    exact ⟨rfl, bthen HB.out b5⟩
  have hcond : (deedValid ⟨zs, a, b, c⟩ && inS s) = true := by
    cases hh : (deedValid ⟨zs, a, b, c⟩ && inS s) with
    | true => rfl
    | false => exact absurd (by unfold deedDo; rw [hh]; rfl) hneg
  have hval : deedDo ⟨zs, a, b, c⟩ s = behind ⟨zs, a, b, c⟩ s.toNat := by unfold deedDo; rw [hcond]; rfl
  rw [Bool.and_eq_true] at hcond
  obtain ⟨A, B, C, hdd, hA, hB, hC, hab, hac, hbc, hcv⟩ := deed_valid hcond.1
  simp only [DeedM.mk.injEq, true_and] at hdd hcv
  obtain ⟨S, hSS, hS⟩ := inS_true hcond.2
  rw [hval] at hneg
  have hrun : runAll zs S = true := by
    cases hh : runAll zs S with
    | true => rfl
    | false => exact absurd (by unfold behind; rw [hSS, Int.toNat_natCast]; simp only; rw [hh]; rfl) hneg
  obtain ⟨X, hX⟩ : ∃ X, X = butNot (S ||| A) B ^^^ C := ⟨_, rfl⟩
  have hXv : deedDo ⟨zs, a, b, c⟩ s = X := by
    rw [hval]; unfold behind; rw [hSS, Int.toNat_natCast]; simp only; rw [hrun, if_pos rfl, hdd.1, hdd.2.1, hdd.2.2, hX]; simp only [Int.toNat_natCast]
  have hXl : X < 32 := by rw [hX]; exact xor_lt32 (butNot_lt32 (or_lt32 hS hA)) hC
  obtain ⟨p1, p2, p3, p4, p5⟩ := deed_did hS hA hB hC hab hac hbc
  rw [← hX] at p1 p2 p3 p5
  have HXV := hidI hXv
  have HRUN := hidI (show codeRun zs S = true by unfold codeRun; rw [hcv, decide_eq_true (by omega), Int.toNat_natCast, hrun]; rfl)
  obtain ⟨rfl, rfl, rfl⟩ := hdd
  subst hSS
  obtain ⟨R, hR⟩ : ∃ R, R = 31 - (A + B + C) := ⟨_, rfl⟩
  rw [← hR] at p5
  have hR2 : (31 : Int) - A - B - C = R := by omega
  have hRl : R < 32 := by omega
  have q1 := hidI (fun (w : World) => laws_both X A w (by omega) (by omega))
  have q2 := hidI (fun (w : World) => laws_both X B w (by omega) (by omega))
  have q3 := hidI (fun (w : World) => laws_both X C w (by omega) (by omega))
  have q4 := hidI (fun (w : World) => laws_both S C w (by omega) (by omega))
  have q5 := hidI (fun (w : World) => laws_both X R w (by omega) (by omega))
  have q6 := hidI (fun (w : World) => laws_both S R w (by omega) (by omega))
  rw [p1] at q1; rw [p2] at q2; rw [p5] at q5
  obtain ⟨E, hE⟩ : ∃ E, E = X &&& C := ⟨_, rfl⟩
  obtain ⟨F, hF⟩ : ∃ F, F = S &&& C := ⟨_, rfl⟩
  obtain ⟨G, hG⟩ : ∃ G, G = S &&& R := ⟨_, rfl⟩
  rw [← hE] at q3 p3; rw [← hF] at q4 p3; rw [← hG] at q5 q6
  have p3' : (C : Int) - F = E := by omega
  have hFl : F ≤ C := by omega
  have p3d : IntKind.i64.wrap (E : Int) = E := IntWalk.i64_in _ ⟨by omega, by omega⟩
  clear p1 p2 p3 p5 hE hF hG hX hXv hval hneg hcond hrun hab hac hbc hcv hR hzl
  rw [HXV.out]
  have j1 := hidI hA; have j2 := hidI hB; have j3 := hidI hC
  go_wp2_with fail
  have HW := hidI (show Below w3.heap.size w3 w3.drew from (Below.refl _ _).drew)
  go_region_held3 (fun W => W.cell? ⟨D, 0, none⟩ = some (.slice (some ⟨g, 0, none⟩) m cap) ∧ W.cell? ⟨D, 1, none⟩ = some (.int .i64 (A : Int)) ∧ W.cell? ⟨D, 2, none⟩ = some (.int .i64 (B : Int)) ∧ W.cell? ⟨D, 3, none⟩ = some (.int .i64 (C : Int)) ∧ Hid (Below w3.heap.size w3 W)) (first | exact ⟨d0, d1, d2, d3, HW⟩ | (refine ⟨?_, ?_, ?_, ?_, ?_⟩ <;> assumption)) (first | (go_at_call 38; refine (impl_CodeRun zs S _ _ (HI.out.below HW.out)).mono ?_; rintro e w7 ⟨rfl, b7⟩; rw [HRUN.out]; have q7 := hidI (bthen HW.out b7); have HD7 := hidI ((q7.out.block D (DBlk.lt HD.out)).trans HD.out); obtain ⟨e0, e1, e2, e3⟩ := DBlk.cells HD7.out) | (go_at_call 34; go_fit (q1.out _); rintro e w' ⟨rfl, rfl⟩) | (go_at_call 34; go_fit (q2.out _); rintro e w' ⟨rfl, rfl⟩) | (go_at_call 34; go_fit (q3.out _); rintro e w' ⟨rfl, rfl⟩) | (go_at_call 34; go_fit (q4.out _); rintro e w' ⟨rfl, rfl⟩) | (go_at_call 34; go_fit (q5.out _); rintro e w' ⟨rfl, rfl⟩) | (go_at_call 34; go_fit (q6.out _); rintro e w' ⟨rfl, rfl⟩) | fail)
  go_wp2_with fail
  go_ret
  exact ⟨by first | rfl | exact ret_bool (decide_eq_true (by omega)), bthen HB.out q7.out⟩

set_option maxRecDepth 100000 in
theorem FnDeedDo_lifted (os : Os) (started : os.Started) (H : Type) (enc : TypeId × Value → H) :
    ReturnsInHanded {} Try.checked os 10 .any (Rows.fnDeedDoSpec.pre6 enc Try.prog Try.f10 Rows.fnDeedDoRow.domain false) (Rows.fnDeedDoSpec.post enc Try.prog Try.f10 false true false false) := by
  refine returnsInHanded_of_change (C := Try.checked) own started (by kernel_rfl) Try.func10
    (ChangeSpec.witness6 (enc := enc) (C := Try.checked) false ⟨#[], #[.slice none 0 0], []⟩ 8 (by kernel_rfl) (by kernel_rfl) (by kernel_rfl) (by kernel_rfl)) ?_
  intro W base args ds gs before hval0 hW hcnd _
  have hval : ∀ (j : Nat) t v, Try.f10.params[j]? = some t → args[j]? = some v → Value.okWide Try.prog W .any base t v := hval0
  have hW' := hW
  obtain ⟨p, q, hA0, hV, rfl, hfz, hnd⟩ := hW
  have hA : DataW.TrodAll enc Try.prog W 0 (fun _ => true) true Try.f10.params.toList args.toList ds p := hA0
  rw [Try.params10] at hA hval
  obtain ⟨rfl, rfl⟩ := trodVars_none hV
  clear hA0 hval0
  simp only [List.append_nil] at hW'
  obtain ⟨v0, d0, rfl, rfl, h0⟩ := trodAll_one hA
  have l0 : ∀ x ∈ p, x.block < W.heap.size := fun x hx => by simpa using hW'.lt x hx
  have k0 : ∀ (W' : World), Below W.heap.size W W' → DataW.Trod enc Try.prog W' 0 (fun b => decide (b < W.heap.size)) true 22 v0 d0 p := fun W' hn => Below.trod laidOut (by kernel_rfl) (of_decide_eq_true (by kernel_rfl)) h0 hn l0
  obtain ⟨n, hn⟩ := open_BytS (hval 0 22 v0 rfl rfl) h0 l0
  refine (FnDeedDo_walk n v0 W hn).mono fun e W' ⟨he, hb⟩ => ?_
  subst he
  exact ⟨_, rfl, _, _, _, [], _, [], hW', shut_true, trodAll_mk1 (k0 _ hb), rfl, hb.frame _, fun h => by cases h⟩

theorem FnDeedDo_holds : Rows.FnDeedDoSaid :=
  OpenClaim.holds_of_wide 10 Try.f10 rfl rfl rfl rfl rfl rfl rfl ⟨rfl, rfl, rfl, rfl, rfl⟩ rfl rfl rfl rfl rfl (by kernel_rfl) Try.func10 (by kernel_rfl)
    (of_decide_eq_true (by kernel_rfl)) (by unfold Func.isWrapper; first | (rw [if_pos (by decide +kernel)]; kernel_rfl) | (rw [if_neg (by decide +kernel)]; exact ⟨rfl, rfl⟩))
    (fun os started H enc _ => FnDeedDo_lifted os started H enc)
end Go.Proofs.Ytobpikjegfiklaa
