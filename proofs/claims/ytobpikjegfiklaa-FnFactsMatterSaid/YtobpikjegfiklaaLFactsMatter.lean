/- FnFactsMatter: for every input the law returns true, and its argument reads as before. -/
import Derived.Test.YtobpikjegfiklaaOpenB
import Derived.Test.YtobpikjegfiklaaApp
import Derived.Test.YtobpikjegfiklaaDrawC
import Derived.Test.YtobpikjegfiklaaAlive
import Derived.Test.YtobpikjegfiklaaMattP
import Derived.Test.YtobpikjegfiklaaLawH
import Derived.Deep.DeepFit
import Derived.Outline
namespace Go.Proofs.Ytobpikjegfiklaa
open Go.ChangeShapes Go.WideShapes Go.ChangeAt Go.RowKit

theorem spec_DrawFactsMatter (n : Nat) (v : Value) (w : World) (h : BytS w w.heap.size v n) :
    Calls Try.prog 35 #[v] w fun e w' => ∃ g m cap zs, e = .returned (.slice (some ⟨g, 0, none⟩) m cap) ∧ m ≤ 60 ∧ zs.length = m ∧ IntS w' (.slice (some ⟨g, 0, none⟩) m cap) zs ∧ Below w.heap.size w w' := by
  go_enter Try.func35, Try.ntmps35
  go_wp2_with fail
  go_fit (spec_l20Open n v w h); rintro e w1 ⟨rfl, hr, b1⟩
  go_wp2_with fail
  go_fit (spec_l20Code w.heap.size 0 5 9 w1 hr (by omega) (by omega) (by omega) (by omega) (by omega)); rintro e w2 ⟨g, m, cap, rfl, hm, ho, -, hg⟩
  obtain ⟨zs, hz, hi⟩ := ho.ints
  go_wp2_with fail
  go_ret
  exact ⟨g, m, cap, zs, rfl, hm, hz, hi, b1.grown hg b1.size (fun k hk => by cases hk; exact Nat.le_refl _)⟩

set_option maxRecDepth 100000 in
set_option maxHeartbeats 1000000 in
theorem FnFactsMatter_walk (n : Nat) (v : Value) (w : World) (h : BytS w w.heap.size v n) :
    Calls Try.prog 9 #[v] w fun e w' => e = .returned (.bool true) ∧ Below w.heap.size w w' := by
  obtain ⟨bao, bcap, hv⟩ : ∃ ao cap, v = .slice ao n cap := by obtain ⟨ao, cap, h1, _⟩ := h; exact ⟨ao, cap, h1⟩
  subst hv
  have HV := hidI h; clear h
  by_cases hbig : 1048576 < n
  · go_enter Try.func9, Try.ntmps9
    go_wp2_with fail
    go_ret
    exact ⟨rfl, Below.refl _ _⟩
  have hbig2 : (n : Int) ≤ 1048576 := by omega
  go_enter Try.func9, Try.ntmps9
  go_wp2_with fail
  go_fit (spec_DrawFactsMatter n _ w HV.out); rintro e w1 ⟨g, m, cap, zs, rfl, hm, hz, hi, b1⟩
  have HC := hidI hi; have B1 := hidI b1; have HZ := hidI hz; clear hi b1 hz
  go_wp2_with fail
  go_fit (impl_FactsMatter zs _ _ HC.out); rintro e w2 ⟨rfl, b2⟩
  have HC := hidI (HC.out.below b2); have B2 := hidI (bthen B1.out b2); clear b2
  go_wp2_with fail
  have hzl : zs.length ≤ 4000000 := by rw [HZ.out]; omega
  go_fit (spec_FactsMatter zs _ _ HC.out hzl); rintro e w3 ⟨rfl, b3⟩
  have HC := hidI (HC.out.below b3); have B3 := hidI (bthen B2.out b3); clear b3
  clear hzl
  cases hv : codeValid zs
  · have HT := hidI (show factsMatter zs = -1 by unfold factsMatter; rw [hv]; rfl)
    have HVV := hidI hv; clear hv
    rw [HT.out]
    go_wp2_with fail
    go_fit (laws_alive _); rintro e w4 ⟨rfl, b4⟩
    go_wp2_with fail
    go_ret
    exact ⟨rfl, bthen B3.out b4⟩
  have HT := hidI (show factsMatter zs = (mattTo zs 5 : Nat) by unfold factsMatter; rw [hv]; rfl)
  have hT := mattTo_lt zs 5 (Nat.le_refl 5)
  have HM := hidI (fun (s : Nat) (hs : s < 32) => matter_and zs hs)
  have HRUN := hidI (show ∀ s : Nat, s < 32 → codeRun zs s = runAll zs s from fun s hs => by unfold codeRun; rw [hv, decide_eq_true (by omega)]; rfl)
  rw [HT.out]
  obtain ⟨T, hTT⟩ : ∃ T, T = mattTo zs 5 := ⟨_, rfl⟩
  rw [← hTT] at hT HM ⊢
  clear hTT hv
  go_wp2_with fail
  go_loopw [5] (fun i wr => ∃ k : Nat, k ≤ 32 ∧ i = .int .i64 k ∧ Hid (Below w3.heap.size w3 wr)) (fun i _ => 32 - (intOf i).toNat)
  case atStart => exact ⟨0, by omega, rfl, hidI (Below.refl _ _)⟩
  case round =>
    obtain ⟨k, hk, rfl, HB⟩ := hrel
    by_cases hk2 : k < 32
    · have hkT : k &&& T < 32 := Nat.lt_of_le_of_lt Nat.and_le_left hk2
      have HR1 := hidI (HRUN.out k hk2)
      have HR2 := hidI ((HRUN.out _ hkT).trans (HM.out k hk2))
      have hbl := laws_both k T wr (by omega) (by omega)
      obtain ⟨A, hA⟩ : ∃ A, A = k &&& T := ⟨_, rfl⟩
      rw [← hA] at hkT HR2
      have HA := hidI hA; clear hA
      have HBL := hidI (fun (w : World) => laws_both k T w (by omega) (by omega))
      rw [← HA.out] at HBL
      clear hbl
      cases hr : runAll zs k
      all_goals
        have HR := hidI hr; clear hr
        go_wp2_with fail
        go_fit (impl_CodeRun zs k _ _ (HC.out.below HB.out)); rintro e w4 ⟨rfl, b4⟩
        have HB := hidI (bthen HB.out b4); clear b4
        rw [HR1.out, HR.out]
        go_wp2_with fail
        go_fit (HBL.out _); rintro e w' ⟨rfl, rfl⟩
        go_wp2_with fail
        go_fit (impl_CodeRun zs A _ _ (HC.out.below HB.out)); rintro e w5 ⟨rfl, b5⟩
        have HB := hidI (bthen HB.out b5); clear b5
        rw [HR2.out, HR.out]
        go_wp2_with fail
        go_roundw
        case rel => exact ⟨k + 1, by omega, by go_num, HB⟩
        case measure => simp [intOf]; omega
    · obtain rfl : k = 32 := by omega
      go_wp2_with fail
      go_ret
      exact ⟨ret_bool (decide_eq_true (by omega)), bthen B3.out HB.out⟩

set_option maxRecDepth 100000 in
theorem FnFactsMatter_lifted (os : Os) (started : os.Started) (H : Type) (enc : TypeId × Value → H) :
    ReturnsInHanded {} Try.checked os 9 .any (Rows.fnFactsMatterSpec.pre6 enc Try.prog Try.f9 Rows.fnFactsMatterRow.domain false) (Rows.fnFactsMatterSpec.post enc Try.prog Try.f9 false true false false) := by
  refine returnsInHanded_of_change (C := Try.checked) own started (by kernel_rfl) Try.func9
    (ChangeSpec.witness6 (enc := enc) (C := Try.checked) false ⟨#[], #[.slice none 0 0], []⟩ 8 (by kernel_rfl) (by kernel_rfl) (by kernel_rfl) (by kernel_rfl)) ?_
  intro W base args ds gs before hval0 hW hcnd _
  have hval : ∀ (j : Nat) t v, Try.f9.params[j]? = some t → args[j]? = some v → Value.okWide Try.prog W .any base t v := hval0
  have hW' := hW
  obtain ⟨p, q, hA0, hV, rfl, hfz, hnd⟩ := hW
  have hA : DataW.TrodAll enc Try.prog W 0 (fun _ => true) true Try.f9.params.toList args.toList ds p := hA0
  rw [Try.params9] at hA hval
  obtain ⟨rfl, rfl⟩ := trodVars_none hV
  clear hA0 hval0
  simp only [List.append_nil] at hW'
  obtain ⟨v0, d0, rfl, rfl, h0⟩ := trodAll_one hA
  have l0 : ∀ x ∈ p, x.block < W.heap.size := fun x hx => by simpa using hW'.lt x hx
  have k0 : ∀ (W' : World), Below W.heap.size W W' → DataW.Trod enc Try.prog W' 0 (fun b => decide (b < W.heap.size)) true 22 v0 d0 p := fun W' hn => Below.trod laidOut (by kernel_rfl) (of_decide_eq_true (by kernel_rfl)) h0 hn l0
  obtain ⟨n, hn⟩ := open_BytS (hval 0 22 v0 rfl rfl) h0 l0
  refine (FnFactsMatter_walk n v0 W hn).mono fun e W' ⟨he, hb⟩ => ?_
  subst he
  exact ⟨_, rfl, _, _, _, [], _, [], hW', shut_true, trodAll_mk1 (k0 _ hb), rfl, hb.frame _, fun h => by cases h⟩

theorem FnFactsMatter_holds : Rows.FnFactsMatterSaid :=
  OpenClaim.holds_of_wide 9 Try.f9 rfl rfl rfl rfl rfl rfl rfl ⟨rfl, rfl, rfl, rfl, rfl⟩ rfl rfl rfl rfl rfl (by kernel_rfl) Try.func9 (by kernel_rfl)
    (of_decide_eq_true (by kernel_rfl)) (by unfold Func.isWrapper; first | (rw [if_pos (by decide +kernel)]; kernel_rfl) | (rw [if_neg (by decide +kernel)]; exact ⟨rfl, rfl⟩))
    (fun os started H enc _ => FnFactsMatter_lifted os started H enc)
end Go.Proofs.Ytobpikjegfiklaa
