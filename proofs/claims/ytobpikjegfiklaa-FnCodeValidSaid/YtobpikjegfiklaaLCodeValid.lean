/- FnCodeValid: for every input the law returns true, and its argument reads as before. -/
import Derived.Test.YtobpikjegfiklaaOpenB
import Derived.Test.YtobpikjegfiklaaApp
import Derived.Test.YtobpikjegfiklaaDrawC
import Derived.Test.YtobpikjegfiklaaAlive
import Derived.Test.YtobpikjegfiklaaRunP
import Derived.Deep.DeepFit
import Derived.Outline
namespace Go.Proofs.Ytobpikjegfiklaa
open Go.ChangeShapes Go.WideShapes Go.ChangeAt Go.RowKit

theorem spec_DrawCodeValid (n : Nat) (v : Value) (w : World) (h : BytS w w.heap.size v n) :
    Calls Try.prog 18 #[v] w fun e w' => ∃ g m cap zs, e = .returned (.slice (some ⟨g, 0, none⟩) m cap) ∧ m ≤ 60 ∧ zs.length = m ∧ IntS w' (.slice (some ⟨g, 0, none⟩) m cap) zs ∧ Below w.heap.size w w' := by
  go_enter Try.func18, Try.ntmps18
  go_wp2_with fail
  go_fit (spec_l20Open n v w h); rintro e w1 ⟨rfl, hr, b1⟩
  go_wp2_with fail
  go_fit (spec_l20Code w.heap.size 0 5 2 w1 hr (by omega) (by omega) (by omega) (by omega) (by omega)); rintro e w2 ⟨g, m, cap, rfl, hm, ho, -, hg⟩
  obtain ⟨zs, hz, hi⟩ := ho.ints
  go_wp2_with fail
  go_ret
  exact ⟨g, m, cap, zs, rfl, hm, hz, hi, b1.grown hg b1.size (fun k hk => by cases hk; exact Nat.le_refl _)⟩

set_option maxHeartbeats 1000000 in
theorem FnCodeValid_walk (n : Nat) (v : Value) (w : World) (h : BytS w w.heap.size v n) :
    Calls Try.prog 4 #[v] w fun e w' => e = .returned (.bool true) ∧ Below w.heap.size w w' := by
  obtain ⟨bao, bcap, hv⟩ : ∃ ao cap, v = .slice ao n cap := by obtain ⟨ao, cap, h1, _⟩ := h; exact ⟨ao, cap, h1⟩
  subst hv
  have HV := hidI h; clear h
  by_cases hbig : 1048576 < n
  · go_enter Try.func4, Try.ntmps4
    go_wp2_with fail
    go_ret
    exact ⟨rfl, Below.refl _ _⟩
  have hbig2 : (n : Int) ≤ 1048576 := by omega
  go_enter Try.func4, Try.ntmps4
  go_wp2_with fail
  go_fit (spec_DrawCodeValid n _ w HV.out); rintro e w1 ⟨g, m, cap, zs, rfl, hm, hz, hi, b1⟩
  have HC := hidI hi; have B1 := hidI b1; have HZ := hidI hz; clear hi b1 hz
  go_wp2_with fail
  go_fit (impl_CodeValid zs _ _ HC.out); rintro e w' ⟨rfl, rfl⟩
  go_wp2_with fail
  have hzl : zs.length ≤ 4000000 := by rw [HZ.out]; omega
  go_fit (spec_CodeValid zs _ _ HC.out hzl); rintro e w' ⟨rfl, rfl⟩
  have hzl2 : zs.length ≤ 60 := by rw [HZ.out]; exact hm
  have HN := hidI (fun (w : World) => impl_CodeValid [] (.slice none 0 0) w (IntS.nil w))
  cases hv : codeValid zs
  · have HVV := hidI hv; clear hv
    have HE := hidI (OutL.new (w := w1) (base := w1.heap.size) [] (by simp) (Nat.le_refl _) (by simp))
    have HI := hidI (IntS.below HC.out ((Below.refl _ _).alloc (Nat.le_refl _) (.cells #[] 3)))
    have hbs : w1.heap.size ≤ (w1.alloc (.cells #[] 3)).heap.size := by simp
    have hns : ([] : List Int).length + (zs).length ≤ 10000000 := by simp; omega
    have bb := hidI ((Below.refl w1.heap.size w1).alloc (Nat.le_refl _) (.cells #[] 3))
    go_wp2_with (at_builtin; refine wpList_appendL _ rfl _ _ rfl w1.heap.size _ 0 _ [] _ (zs) rfl rfl HE.out HI.out hns hbs ?_)
    intro n2 g2 cap2 wa2 ho hbW hgr
    have HB2 := hidI (hbW _ bb.out)
    clear HE HI hbs hns bb hgr hbW
    (try rw [List.nil_append] at ho)
    have HO := hidI ho; clear ho
    have HI : Hid (IntS (wa2.alloc (.cells #[.int .i64 (0 : Int)] 3)) (.slice (some ⟨wa2.heap.size, 0, none⟩) 1 1) [(0 : Int)]) := ints_new wa2 [(0 : Int)] (i64_one (i64_of (by omega) (by omega))) (by simp)
    have hbs : w1.heap.size ≤ (wa2.alloc (.cells #[.int .i64 (0 : Int)] 3)).heap.size := by have := HB2.out.size; simp; omega
    have hns : (zs).length + [(0 : Int)].length ≤ 10000000 := by simp; omega
    have bb := hidI (HB2.out.alloc HB2.out.size (.cells #[.int .i64 (0 : Int)] 3))
    go_wp2_with (at_builtin; refine wpList_appendL _ rfl _ _ rfl w1.heap.size _ n2 _ (zs) _ [(0 : Int)] rfl rfl (HO.out.alloc _) HI.out hns hbs ?_)
    intro m2 g2 cap2 wb2 ho hbW hgr
    have HB2 := hidI (hbW _ bb.out)
    have HO2 := hidI ho.ints
    clear HO HI hbs hns bb hgr hbW ho
    have HE := hidI (OutL.new (w := wb2) (base := wb2.heap.size) [] (by simp) (Nat.le_refl _) (by simp))
    have HI := hidI (IntS.below (HC.out.below HB2.out) ((Below.refl _ _).alloc (Nat.le_refl _) (.cells #[] 3)))
    have hbs : wb2.heap.size ≤ (wb2.alloc (.cells #[] 3)).heap.size := by simp
    have hns : ([] : List Int).length + (zs).length ≤ 10000000 := by simp; omega
    have bb := hidI ((Below.refl wb2.heap.size wb2).alloc (Nat.le_refl _) (.cells #[] 3))
    go_wp2_with (at_builtin; refine wpList_appendL _ rfl _ _ rfl wb2.heap.size _ 0 _ [] _ (zs) rfl rfl HE.out HI.out hns hbs ?_)
    intro n3 g3 cap3 wa3 ho hbW hgr
    have HB3 := hidI (hbW _ bb.out)
    clear HE HI hbs hns bb hgr hbW
    (try rw [List.nil_append] at ho)
    have HO := hidI ho; clear ho
    have HI : Hid (IntS (wa3.alloc (.cells #[.int .i64 (7 : Int)] 3)) (.slice (some ⟨wa3.heap.size, 0, none⟩) 1 1) [(7 : Int)]) := ints_new wa3 [(7 : Int)] (i64_one (i64_of (by omega) (by omega))) (by simp)
    have hbs : wb2.heap.size ≤ (wa3.alloc (.cells #[.int .i64 (7 : Int)] 3)).heap.size := by have := HB3.out.size; simp; omega
    have hns : (zs).length + [(7 : Int)].length ≤ 10000000 := by simp; omega
    have bb := hidI (HB3.out.alloc HB3.out.size (.cells #[.int .i64 (7 : Int)] 3))
    go_wp2_with (at_builtin; refine wpList_appendL _ rfl _ _ rfl wb2.heap.size _ n3 _ (zs) _ [(7 : Int)] rfl rfl (HO.out.alloc _) HI.out hns hbs ?_)
    intro m3 g3 cap3 wb3 ho hbW hgr
    have HB3 := hidI (hbW _ bb.out)
    have HO3 := hidI ho.ints
    clear HO HI hbs hns bb hgr hbW ho
    go_wp2_with fail
    go_fit (HN.out _); rintro e w' ⟨rfl, rfl⟩
    go_wp2_with fail
    go_fit (laws_alive _); rintro e w2 ⟨rfl, b2⟩
    go_wp2_with fail
    go_ret
    exact ⟨rfl, bthen B1.out (bthen HB2.out (bthen HB3.out b2))⟩
  have H0 := hidI (valid_zero hv)
  have HM := hidI (fun hl => valid_not hv hl)
  rw [HZ.out] at HM
  clear hv
  have HE := hidI (OutL.new (w := w1) (base := w1.heap.size) [] (by simp) (Nat.le_refl _) (by simp))
  have HI := hidI (IntS.below HC.out ((Below.refl _ _).alloc (Nat.le_refl _) (.cells #[] 3)))
  have hbs : w1.heap.size ≤ (w1.alloc (.cells #[] 3)).heap.size := by simp
  have hns : ([] : List Int).length + (zs).length ≤ 10000000 := by simp; omega
  have bb := hidI ((Below.refl w1.heap.size w1).alloc (Nat.le_refl _) (.cells #[] 3))
  go_wp2_with (at_builtin; refine wpList_appendL _ rfl _ _ rfl w1.heap.size _ 0 _ [] _ (zs) rfl rfl HE.out HI.out hns hbs ?_)
  intro n2 g2 cap2 wa2 ho hbW hgr
  have HB2 := hidI (hbW _ bb.out)
  clear HE HI hbs hns bb hgr hbW
  (try rw [List.nil_append] at ho)
  have HO := hidI ho; clear ho
  have HI : Hid (IntS (wa2.alloc (.cells #[.int .i64 (0 : Int)] 3)) (.slice (some ⟨wa2.heap.size, 0, none⟩) 1 1) [(0 : Int)]) := ints_new wa2 [(0 : Int)] (i64_one (i64_of (by omega) (by omega))) (by simp)
  have hbs : w1.heap.size ≤ (wa2.alloc (.cells #[.int .i64 (0 : Int)] 3)).heap.size := by have := HB2.out.size; simp; omega
  have hns : (zs).length + [(0 : Int)].length ≤ 10000000 := by simp; omega
  have bb := hidI (HB2.out.alloc HB2.out.size (.cells #[.int .i64 (0 : Int)] 3))
  go_wp2_with (at_builtin; refine wpList_appendL _ rfl _ _ rfl w1.heap.size _ n2 _ (zs) _ [(0 : Int)] rfl rfl (HO.out.alloc _) HI.out hns hbs ?_)
  intro m2 g2 cap2 wb2 ho hbW hgr
  have HB2 := hidI (hbW _ bb.out)
  have HO2 := hidI ho.ints
  clear HO HI hbs hns bb hgr hbW ho
  have HE := hidI (OutL.new (w := wb2) (base := wb2.heap.size) [] (by simp) (Nat.le_refl _) (by simp))
  have HI := hidI (IntS.below (HC.out.below HB2.out) ((Below.refl _ _).alloc (Nat.le_refl _) (.cells #[] 3)))
  have hbs : wb2.heap.size ≤ (wb2.alloc (.cells #[] 3)).heap.size := by simp
  have hns : ([] : List Int).length + (zs).length ≤ 10000000 := by simp; omega
  have bb := hidI ((Below.refl wb2.heap.size wb2).alloc (Nat.le_refl _) (.cells #[] 3))
  go_wp2_with (at_builtin; refine wpList_appendL _ rfl _ _ rfl wb2.heap.size _ 0 _ [] _ (zs) rfl rfl HE.out HI.out hns hbs ?_)
  intro n3 g3 cap3 wa3 ho hbW hgr
  have HB3 := hidI (hbW _ bb.out)
  clear HE HI hbs hns bb hgr hbW
  (try rw [List.nil_append] at ho)
  have HO := hidI ho; clear ho
  have HI : Hid (IntS (wa3.alloc (.cells #[.int .i64 (7 : Int)] 3)) (.slice (some ⟨wa3.heap.size, 0, none⟩) 1 1) [(7 : Int)]) := ints_new wa3 [(7 : Int)] (i64_one (i64_of (by omega) (by omega))) (by simp)
  have hbs : wb2.heap.size ≤ (wa3.alloc (.cells #[.int .i64 (7 : Int)] 3)).heap.size := by have := HB3.out.size; simp; omega
  have hns : (zs).length + [(7 : Int)].length ≤ 10000000 := by simp; omega
  have bb := hidI (HB3.out.alloc HB3.out.size (.cells #[.int .i64 (7 : Int)] 3))
  go_wp2_with (at_builtin; refine wpList_appendL _ rfl _ _ rfl wb2.heap.size _ n3 _ (zs) _ [(7 : Int)] rfl rfl (HO.out.alloc _) HI.out hns hbs ?_)
  intro m3 g3 cap3 wb3 ho hbW hgr
  have HB3 := hidI (hbW _ bb.out)
  have HO3 := hidI ho.ints
  clear HO HI hbs hns bb hgr hbW ho
  go_wp2_with fail
  go_fit (impl_CodeValid (zs ++ [0]) _ _ (HO2.out.below HB3.out)); rintro e w' ⟨rfl, rfl⟩
  rw [H0.out]
  by_cases h40 : m = 40
  · subst h40
    go_wp2_with fail
    go_fit (HN.out _); rintro e w' ⟨rfl, rfl⟩
    go_wp2_with fail
    go_fit (laws_alive _); rintro e w2 ⟨rfl, b2⟩
    go_wp2_with fail
    go_ret
    exact ⟨rfl, bthen B1.out (bthen HB2.out (bthen HB3.out b2))⟩
  · have h40' : ((m : Int) == 40) = false := by simp; omega
    go_wp2_with fail
    go_fit (impl_CodeValid (zs ++ [7]) _ _ HO3.out); rintro e w' ⟨rfl, rfl⟩
    rw [HM.out h40]
    go_wp2_with fail
    go_fit (HN.out _); rintro e w' ⟨rfl, rfl⟩
    go_wp2_with fail
    go_fit (laws_alive _); rintro e w2 ⟨rfl, b2⟩
    go_wp2_with fail
    go_ret
    exact ⟨rfl, bthen B1.out (bthen HB2.out (bthen HB3.out b2))⟩

set_option maxRecDepth 100000 in
theorem FnCodeValid_lifted (os : Os) (started : os.Started) (H : Type) (enc : TypeId × Value → H) :
    ReturnsInHanded {} Try.checked os 4 .any (Rows.fnCodeValidSpec.pre6 enc Try.prog Try.f4 Rows.fnCodeValidRow.domain false) (Rows.fnCodeValidSpec.post enc Try.prog Try.f4 false true false false) := by
  refine returnsInHanded_of_change (C := Try.checked) own started (by kernel_rfl) Try.func4
    (ChangeSpec.witness6 (enc := enc) (C := Try.checked) false ⟨#[], #[.slice none 0 0], []⟩ 8 (by kernel_rfl) (by kernel_rfl) (by kernel_rfl) (by kernel_rfl)) ?_
  intro W base args ds gs before hval0 hW hcnd _
  have hval : ∀ (j : Nat) t v, Try.f4.params[j]? = some t → args[j]? = some v → Value.okWide Try.prog W .any base t v := hval0
  have hW' := hW
  obtain ⟨p, q, hA0, hV, rfl, hfz, hnd⟩ := hW
  have hA : DataW.TrodAll enc Try.prog W 0 (fun _ => true) true Try.f4.params.toList args.toList ds p := hA0
  rw [Try.params4] at hA hval
  obtain ⟨rfl, rfl⟩ := trodVars_none hV
  clear hA0 hval0
  simp only [List.append_nil] at hW'
  obtain ⟨v0, d0, rfl, rfl, h0⟩ := trodAll_one hA
  have l0 : ∀ x ∈ p, x.block < W.heap.size := fun x hx => by simpa using hW'.lt x hx
  have k0 : ∀ (W' : World), Below W.heap.size W W' → DataW.Trod enc Try.prog W' 0 (fun b => decide (b < W.heap.size)) true 22 v0 d0 p := fun W' hn => Below.trod laidOut (by kernel_rfl) (of_decide_eq_true (by kernel_rfl)) h0 hn l0
  obtain ⟨n, hn⟩ := open_BytS (hval 0 22 v0 rfl rfl) h0 l0
  refine (FnCodeValid_walk n v0 W hn).mono fun e W' ⟨he, hb⟩ => ?_
  subst he
  exact ⟨_, rfl, _, _, _, [], _, [], hW', shut_true, trodAll_mk1 (k0 _ hb), rfl, hb.frame _, fun h => by cases h⟩

theorem FnCodeValid_holds : Rows.FnCodeValidSaid :=
  OpenClaim.holds_of_wide 4 Try.f4 rfl rfl rfl rfl rfl rfl rfl ⟨rfl, rfl, rfl, rfl, rfl⟩ rfl rfl rfl rfl rfl (by kernel_rfl) Try.func4 (by kernel_rfl)
    (of_decide_eq_true (by kernel_rfl)) (by unfold Func.isWrapper; first | (rw [if_pos (by decide +kernel)]; kernel_rfl) | (rw [if_neg (by decide +kernel)]; exact ⟨rfl, rfl⟩))
    (fun os started H enc _ => FnCodeValid_lifted os started H enc)
end Go.Proofs.Ytobpikjegfiklaa
