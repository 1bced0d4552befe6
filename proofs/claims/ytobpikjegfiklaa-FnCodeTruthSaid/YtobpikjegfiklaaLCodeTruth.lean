/- FnCodeTruth: for every input the law returns true, and its argument reads as before. -/
import Derived.Test.YtobpikjegfiklaaOpenB
import Derived.Test.YtobpikjegfiklaaApp
import Derived.Test.YtobpikjegfiklaaDrawC
import Derived.Test.YtobpikjegfiklaaAlive
import Derived.Test.YtobpikjegfiklaaRunP
import Derived.Deep.DeepFit
import Derived.Outline
namespace Go.Proofs.Ytobpikjegfiklaa
open Go.ChangeShapes Go.WideShapes Go.ChangeAt Go.RowKit

theorem spec_DrawCodeTruth (n : Nat) (v : Value) (w : World) (h : BytS w w.heap.size v n) :
    Calls Try.prog 24 #[v] w fun e w' => ∃ g m cap zs, e = .returned (.slice (some ⟨g, 0, none⟩) m cap) ∧ m ≤ 60 ∧ zs.length = m ∧ IntS w' (.slice (some ⟨g, 0, none⟩) m cap) zs ∧ Below w.heap.size w w' := by
  go_enter Try.func24, Try.ntmps24
  go_wp2_with fail
  go_fit (spec_l20Open n v w h); rintro e w1 ⟨rfl, hr, b1⟩
  go_wp2_with fail
  go_fit (spec_l20Code w.heap.size 0 6 9 w1 hr (by omega) (by omega) (by omega) (by omega) (by omega)); rintro e w2 ⟨g, m, cap, rfl, hm, ho, -, hg⟩
  obtain ⟨zs, hz, hi⟩ := ho.ints
  go_wp2_with fail
  go_ret
  exact ⟨g, m, cap, zs, rfl, hm, hz, hi, b1.grown hg b1.size (fun k hk => by cases hk; exact Nat.le_refl _)⟩

set_option maxRecDepth 100000 in
set_option maxHeartbeats 1000000 in
theorem FnCodeTruth_walk (n : Nat) (v : Value) (w : World) (h : BytS w w.heap.size v n) :
    Calls Try.prog 6 #[v] w fun e w' => e = .returned (.bool true) ∧ Below w.heap.size w w' := by
  obtain ⟨bao, bcap, hv⟩ : ∃ ao cap, v = .slice ao n cap := by obtain ⟨ao, cap, h1, _⟩ := h; exact ⟨ao, cap, h1⟩
  subst hv
  have HV := hidI h; clear h
  by_cases hbig : 1048576 < n
  · go_enter Try.func6, Try.ntmps6
    go_wp2_with fail
    go_ret
    exact ⟨rfl, Below.refl _ _⟩
  have hbig2 : (n : Int) ≤ 1048576 := by omega
  go_enter Try.func6, Try.ntmps6
  go_wp2_with fail
  go_fit (spec_DrawCodeTruth n _ w HV.out); rintro e w1 ⟨g, m, cap, zs, rfl, hm, hz, hi, b1⟩
  have HC := hidI hi; have B1 := hidI b1; have HZ := hidI hz; clear hi b1 hz
  go_wp2_with fail
  go_fit (impl_CodeTruth zs _ _ HC.out); rintro e w2 ⟨rfl, b2⟩
  have HC := hidI (HC.out.below b2); have B2 := hidI (bthen B1.out b2); clear b2
  go_wp2_with fail
  have hzl : zs.length ≤ 4000000 := by rw [HZ.out]; omega
  go_fit (spec_CodeTruth zs _ _ HC.out hzl); rintro e w3 ⟨rfl, b3⟩
  have HC := hidI (HC.out.below b3); have B3 := hidI (bthen B2.out b3); clear b3
  have hzl2 : zs.length ≤ 60 := by rw [HZ.out]; exact hm
  cases hv : codeValid zs
  · have HT := hidI (show codeTruth zs = -1 by unfold codeTruth; rw [hv]; rfl)
    have HVV := hidI hv; clear hv
    rw [HT.out]
    go_wp2_with fail
    go_fit (impl_CodeValid zs _ _ HC.out); rintro e w' ⟨rfl, rfl⟩
    rw [HVV.out]
    go_wp2_with fail
    go_fit (laws_alive _); rintro e w4 ⟨rfl, b4⟩
    go_wp2_with fail
    go_ret
    exact ⟨rfl, bthen B3.out b4⟩
  have HT := hidI (show codeTruth zs = (truthTo zs 32 : Nat) by unfold codeTruth; rw [hv]; rfl)
  have hT := truthTo_small zs (Nat.le_refl 32)
  have HM := hidI (show m ≠ 40 → codeTruth (zs ++ [7]) = 4294967295 - (truthTo zs 32 : Nat) by
    intro hl
    have h1 := valid_not hv (by rw [HZ.out]; exact hl)
    have h2 := truth_not zs ((valid_iff _).1 hv).1 32
    unfold codeTruth; rw [h1, if_pos rfl]; omega)
  rw [HT.out]
  obtain ⟨T, hTT⟩ : ∃ T : Int, T = (truthTo zs 32 : Nat) := ⟨_, rfl⟩
  have hT0 : 0 ≤ T := by rw [hTT]; omega
  have hT1 : T < 4294967296 := by rw [hTT]; omega
  rw [← hTT] at HM ⊢
  clear hTT hv hT
  have HE := hidI (OutL.new (w := w3) (base := w3.heap.size) [] (by simp) (Nat.le_refl _) (by simp))
  have HI := hidI (IntS.below HC.out ((Below.refl _ _).alloc (Nat.le_refl _) (.cells #[] 3)))
  have hbs : w3.heap.size ≤ (w3.alloc (.cells #[] 3)).heap.size := by simp
  have hns : ([] : List Int).length + (zs).length ≤ 10000000 := by simp; omega
  have bb := hidI ((Below.refl w3.heap.size w3).alloc (Nat.le_refl _) (.cells #[] 3))
  go_wp2_with (at_builtin; refine wpList_appendL _ rfl _ _ rfl w3.heap.size _ 0 _ [] _ (zs) rfl rfl HE.out HI.out hns hbs ?_)
  intro n2 g2 cap2 wa2 ho hbW hgr
  have HB2 := hidI (hbW _ bb.out)
  clear HE HI hbs hns bb hgr hbW
  (try rw [List.nil_append] at ho)
  have HO := hidI ho; clear ho
  have HI : Hid (IntS (wa2.alloc (.cells #[.int .i64 (7 : Int)] 3)) (.slice (some ⟨wa2.heap.size, 0, none⟩) 1 1) [(7 : Int)]) := ints_new wa2 [(7 : Int)] (i64_one (i64_of (by omega) (by omega))) (by simp)
  have hbs : w3.heap.size ≤ (wa2.alloc (.cells #[.int .i64 (7 : Int)] 3)).heap.size := by have := HB2.out.size; simp; omega
  have hns : (zs).length + [(7 : Int)].length ≤ 10000000 := by simp; omega
  have bb := hidI (HB2.out.alloc HB2.out.size (.cells #[.int .i64 (7 : Int)] 3))
  go_wp2_with (at_builtin; refine wpList_appendL _ rfl _ _ rfl w3.heap.size _ n2 _ (zs) _ [(7 : Int)] rfl rfl (HO.out.alloc _) HI.out hns hbs ?_)
  intro m2 g2 cap2 wb2 ho hbW hgr
  have HB2 := hidI (hbW _ bb.out)
  have HO2 := hidI ho.ints
  clear HO HI hbs hns bb hgr hbW ho
  by_cases h40 : m = 40
  · subst h40
    go_wp2_with fail
    go_ret
    exact ⟨rfl, bthen B3.out HB2.out⟩
  · have h40' : ((m : Int) == 40) = false := by simp; omega
    go_wp2_with fail
    go_fit (impl_CodeTruth (zs ++ [7]) _ _ HO2.out); rintro e w4 ⟨rfl, b4⟩
    rw [HM.out h40]
    go_wp2_with fail
    go_ret
    exact ⟨ret_bool (show (T + (4294967295 - T) == 4294967295) = true by simp; omega), bthen B3.out (bthen HB2.out b4)⟩

set_option maxRecDepth 100000 in
theorem FnCodeTruth_lifted (os : Os) (started : os.Started) (H : Type) (enc : TypeId × Value → H) :
    ReturnsInHanded {} Try.checked os 6 .any (Rows.fnCodeTruthSpec.pre6 enc Try.prog Try.f6 Rows.fnCodeTruthRow.domain false) (Rows.fnCodeTruthSpec.post enc Try.prog Try.f6 false true false false) := by
  refine returnsInHanded_of_change (C := Try.checked) own started (by kernel_rfl) Try.func6
    (ChangeSpec.witness6 (enc := enc) (C := Try.checked) false ⟨#[], #[.slice none 0 0], []⟩ 8 (by kernel_rfl) (by kernel_rfl) (by kernel_rfl) (by kernel_rfl)) ?_
  intro W base args ds gs before hval0 hW hcnd _
  have hval : ∀ (j : Nat) t v, Try.f6.params[j]? = some t → args[j]? = some v → Value.okWide Try.prog W .any base t v := hval0
  have hW' := hW
  obtain ⟨p, q, hA0, hV, rfl, hfz, hnd⟩ := hW
  have hA : DataW.TrodAll enc Try.prog W 0 (fun _ => true) true Try.f6.params.toList args.toList ds p := hA0
  rw [Try.params6] at hA hval
  obtain ⟨rfl, rfl⟩ := trodVars_none hV
  clear hA0 hval0
  simp only [List.append_nil] at hW'
  obtain ⟨v0, d0, rfl, rfl, h0⟩ := trodAll_one hA
  have l0 : ∀ x ∈ p, x.block < W.heap.size := fun x hx => by simpa using hW'.lt x hx
  have k0 : ∀ (W' : World), Below W.heap.size W W' → DataW.Trod enc Try.prog W' 0 (fun b => decide (b < W.heap.size)) true 22 v0 d0 p := fun W' hn => Below.trod laidOut (by kernel_rfl) (of_decide_eq_true (by kernel_rfl)) h0 hn l0
  obtain ⟨n, hn⟩ := open_BytS (hval 0 22 v0 rfl rfl) h0 l0
  refine (FnCodeTruth_walk n v0 W hn).mono fun e W' ⟨he, hb⟩ => ?_
  subst he
  exact ⟨_, rfl, _, _, _, [], _, [], hW', shut_true, trodAll_mk1 (k0 _ hb), rfl, hb.frame _, fun h => by cases h⟩

theorem FnCodeTruth_holds : Rows.FnCodeTruthSaid :=
  OpenClaim.holds_of_wide 6 Try.f6 rfl rfl rfl rfl rfl rfl rfl ⟨rfl, rfl, rfl, rfl, rfl⟩ rfl rfl rfl rfl rfl (by kernel_rfl) Try.func6 (by kernel_rfl)
    (of_decide_eq_true (by kernel_rfl)) (by unfold Func.isWrapper; first | (rw [if_pos (by decide +kernel)]; kernel_rfl) | (rw [if_neg (by decide +kernel)]; exact ⟨rfl, rfl⟩))
    (fun os started H enc _ => FnCodeTruth_lifted os started H enc)
end Go.Proofs.Ytobpikjegfiklaa
