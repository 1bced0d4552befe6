/- FnCodeRun: for every input the law returns true, and its argument reads as before. -/
import Derived.Test.YtndbfdgflflfpaaOpenB
import Derived.Test.YtndbfdgflflfpaaApp
import Derived.Test.YtndbfdgflflfpaaDrawC
import Derived.Test.YtndbfdgflflfpaaAlive
import Derived.Test.YtndbfdgflflfpaaTextB
import Derived.Deep.DeepFit
import Derived.Outline
namespace Go.Proofs.Ytndbfdgflflfpaa
open Go.ChangeShapes Go.WideShapes Go.ChangeAt Go.RowKit

theorem bit_law {T S : Nat} {R : Bool} (h : T.testBit S = R) : ((((T : Int) / 2 ^ S).tmod 2 == 1) == R) = true := by
  subst h
  have e : ((T : Int) / 2 ^ S) = ((T / 2 ^ S : Nat) : Int) := by simp
  rw [e, Nat.testBit_eq_decide_div_mod_eq]
  have e2 : (((T / 2 ^ S : Nat) : Int).tmod 2) = ((T / 2 ^ S % 2 : Nat) : Int) := by
    rw [Int.tmod_eq_emod_of_nonneg (Int.natCast_nonneg _)]; generalize T / 2 ^ S = q; omega
  rw [e2]
  by_cases h : T / 2 ^ S % 2 = 1
  · rw [h]; rfl
  · have h0 : T / 2 ^ S % 2 = 0 := by omega
    rw [h0]; rfl

set_option maxHeartbeats 1000000 in
theorem spec_DrawCodeRun (n : Nat) (v : Value) (w : World) (h : BytS w w.heap.size v n) :
    Calls Try.prog 32 #[v] w fun e w' => ∃ g m cap zs s, e = .returned (.tuple #[.slice (some ⟨g, 0, none⟩) m cap, .int .i64 s]) ∧ m ≤ 60 ∧ zs.length = m ∧ -1000 ≤ s ∧ s ≤ 1000 ∧ IntS w' (.slice (some ⟨g, 0, none⟩) m cap) zs ∧ Below w.heap.size w w' := by
  go_enter Try.func32, Try.ntmps32
  go_wp2_with fail
  go_fit (spec_l20Open n v w h); rintro e w1 ⟨rfl, hr, b1⟩
  have hlt := hr.lt
  have HB := hidI b1; have HR := hidI hr; clear b1 hr
  go_wp2_with fail
  go_fit (spec_l20Code w.heap.size 0 6 12 w1 HR.out (by omega) (by omega) (by omega) (by omega) (by omega)); rintro e w2 ⟨g, m, cap, rfl, hm, ho, hr, hg⟩
  have HO := hidI ho; have HR := hidI hr; have hlt2 := Nat.lt_of_lt_of_le hlt hg.size
  have HB := hidI (HB.out.grown hg HB.out.size (fun k hk => by cases hk; exact Nat.le_refl _)); clear ho hr hg
  go_wp2_with fail
  go_fit (spec_pickI w.heap.size 200 32 w2 HR.out (by omega) (by omega) (by omega)); rintro e w3 ⟨k1, rfl, hk1, hr, hg⟩
  have HO := hidI (HO.out.grown hg hlt); have HR := hidI hr
  have HB := hidI (HB.out.grown hg HB.out.size (fun k hk => by cases hk; exact Nat.le_refl _)); clear hr hg
  go_wp2_with fail
  go_fit (spec_pickI w.heap.size 201 30 w3 HR.out (by omega) (by omega) (by omega)); rintro e w4 ⟨k2, rfl, hk2, hr, hg⟩
  have HO := hidI (HO.out.grown hg hlt); have HR := hidI hr
  have HB := hidI (HB.out.grown hg HB.out.size (fun k hk => by cases hk; exact Nat.le_refl _)); clear hr hg
  go_wp2_with fail
  go_fit (spec_pickI w.heap.size 202 30 w4 HR.out (by omega) (by omega) (by omega)); rintro e w5 ⟨k3, rfl, hk3, hr, hg⟩
  have HO := hidI (HO.out.grown hg hlt)
  have HB := hidI (HB.out.grown hg HB.out.size (fun k hk => by cases hk; exact Nat.le_refl _)); clear hr hg
  obtain ⟨zs, hz, hi⟩ := HO.out.ints
  have HZ := hidI hz; have HI := hidI hi; clear hz hi
  go_wp2_with fail
  go_ret2
  exact ⟨g, m, cap, zs, (k1 : Int) + (k2 : Int) / 29 * 32 - (k3 : Int) / 29 * 40, rfl, hm, HZ.out, by omega, by omega, HI.out, HB.out⟩

set_option maxRecDepth 100000 in
set_option maxHeartbeats 2000000 in
theorem FnCodeRun_walk (n : Nat) (v : Value) (w : World) (h : BytS w w.heap.size v n) :
    Calls Try.prog 8 #[v] w fun e w' => e = .returned (.bool true) ∧ Below w.heap.size w w' := by
  obtain ⟨bao, bcap, hv⟩ : ∃ ao cap, v = .slice ao n cap := by obtain ⟨ao, cap, h1, _⟩ := h; exact ⟨ao, cap, h1⟩
  subst hv
  have HV := hidI h; clear h
  by_cases hbig : 1048576 < n
  · go_enter Try.func8, Try.ntmps8
    go_wp2_with fail
    go_ret
    exact ⟨rfl, Below.refl _ _⟩
  have hbig2 : (n : Int) ≤ 1048576 := by omega
  go_enter Try.func8, Try.ntmps8
  go_wp2_with fail
  go_fit (spec_DrawCodeRun n _ w HV.out); rintro e w1 ⟨g, m, cap, zs, s, rfl, hm, hz, hs1, hs2, hi, b1⟩
  have HC := hidI hi; have B1 := hidI b1; have HZ := hidI hz; clear hi b1 hz
  have hzl : zs.length ≤ 60 := by rw [HZ.out]; exact hm
  go_wp2_with fail
  go_fit (impl_CodeRun zs s _ _ HC.out); rintro e w2 ⟨rfl, b2⟩
  have HC := hidI (HC.out.below b2); have B1 := hidI (bthen B1.out b2); clear b2
  go_wp2_with fail
  go_fit (spec_CodeRun zs s _ _ HC.out (by omega)); rintro e w3 ⟨rfl, b3⟩
  have HC := hidI (HC.out.below b3); have B1 := hidI (bthen B1.out b3); clear b3
  cases hv : codeValid zs
  · have HT := hidI (show codeRun zs s = false by unfold codeRun; rw [hv]; rfl)
    have HVV := hidI hv; clear hv
    rw [HT.out]
    go_wp2_with fail
    go_fit (spec_CodeValid zs _ _ HC.out (by omega)); rintro e w' ⟨rfl, rfl⟩
    rw [HVV.out]
    go_wp2_with fail
    go_fit (laws_alive _); rintro e w4 ⟨rfl, b4⟩
    go_wp2_with fail
    go_ret
    exact ⟨rfl, bthen B1.out b4⟩
  by_cases hs : 0 ≤ s ∧ s < 32
  rotate_left
  · have HT := hidI (show codeRun zs s = false by unfold codeRun; rw [decide_eq_false hs]; simp)
    have HVV := hidI hv; clear hv
    have hq : s < 0 ∨ 31 < s := by omega
    rw [HT.out]
    rcases hq with hq | hq
    · go_wp2_with fail
      go_fit (spec_CodeValid zs _ _ HC.out (by omega)); rintro e w' ⟨rfl, rfl⟩
      rw [HVV.out]
      go_wp2_with fail
      go_fit (laws_alive _); rintro e w4 ⟨rfl, b4⟩
      go_wp2_with fail
      go_ret
      exact ⟨rfl, bthen B1.out b4⟩
    · have hq0 : ¬ s < 0 := by omega
      go_wp2_with fail
      go_fit (spec_CodeValid zs _ _ HC.out (by omega)); rintro e w' ⟨rfl, rfl⟩
      rw [HVV.out]
      go_wp2_with fail
      go_fit (laws_alive _); rintro e w4 ⟨rfl, b4⟩
      go_wp2_with fail
      go_ret
      exact ⟨rfl, bthen B1.out b4⟩
  obtain ⟨S, rfl⟩ := Int.eq_ofNat_of_zero_le hs.1
  have hS : S < 32 := by omega
  have HRD := hidI (read_text hv)
  have HR := hidI (show codeRun zs S = runAll zs S by unfold codeRun; rw [hv, decide_eq_true hs]; rfl)
  have HFit := hidI (fits_of_valid hv)
  have HRN := hidI (show m ≠ 40 → codeRun (zs ++ [7]) S = !(runAll zs S) by
    intro hl
    have h1 := valid_not hv (by rw [HZ.out]; exact hl)
    unfold codeRun
    rw [h1, decide_eq_true hs, Int.toNat_natCast, runAll_not S zs (fits_of_valid hv).1]
    simp)
  have HTR := hidI (show codeTruth zs = (truthTo zs 32 : Nat) by unfold codeTruth; rw [hv]; rfl)
  have HTB := hidI (show (truthTo zs 32).testBit S = runAll zs S by rw [truthTo_testBit, decide_eq_true hS]; rfl)
  have hTl := truthTo_small zs (Nat.le_refl 32)
  obtain ⟨T, hTT⟩ : ∃ T, T = truthTo zs 32 := ⟨_, rfl⟩
  rw [← hTT] at HTR HTB hTl
  clear hTT
  generalize hrr : runAll zs S = R at *
  rw [HR.out]
  have HVV := hidI hv; clear hv hs
  go_wp2_with fail
  go_fit (spec_CodeValid zs _ _ HC.out (by omega)); rintro e w' ⟨rfl, rfl⟩
  rw [HVV.out]
  have HE := hidI (OutL.new (w := w3) (base := w3.heap.size) [] (by simp) (Nat.le_refl _) (by simp))
  have HI := hidI (IntS.below HC.out ((Below.refl _ _).alloc (Nat.le_refl _) (.cells #[] 3)))
  have hbs : w3.heap.size ≤ (w3.alloc (.cells #[] 3)).heap.size := by simp
  have hns : ([] : List Int).length + (zs).length ≤ 10000000 := by simp; omega
  have bb := hidI ((Below.refl w3.heap.size w3).alloc (Nat.le_refl _) (.cells #[] 3))
  go_wp2_with (at_builtin; refine wpList_appendL _ rfl _ _ rfl w3.heap.size _ 0 _ [] _ (zs) rfl rfl HE.out HI.out hns hbs ?_)
  intro n2 g2 cap2 wa2 ho hbW hgr
  have HB2 := hidI (hbW _ bb.out)
  clear HE HI hbs hns bb hgr hbW
  (try rw [List.nil_append] at ho)
  have HO := hidI ho; clear ho
  have HI : Hid (IntS (wa2.alloc (.cells #[.int .i64 (7 : Int)] 3)) (.slice (some ⟨wa2.heap.size, 0, none⟩) 1 1) [(7 : Int)]) := ints_new wa2 [(7 : Int)] (i64_one (i64_of (by omega) (by omega))) (by simp)
  have hbs : w3.heap.size ≤ (wa2.alloc (.cells #[.int .i64 (7 : Int)] 3)).heap.size := by have := HB2.out.size; simp; omega
  have hns : (zs).length + [(7 : Int)].length ≤ 10000000 := by simp; omega
  have bb := hidI (HB2.out.alloc HB2.out.size (.cells #[.int .i64 (7 : Int)] 3))
  go_wp2_with (at_builtin; refine wpList_appendL _ rfl _ _ rfl w3.heap.size _ n2 _ (zs) _ [(7 : Int)] rfl rfl (HO.out.alloc _) HI.out hns hbs ?_)
  intro m2 g2 cap2 wb2 ho hbW hgr
  have HB2 := hidI (hbW _ bb.out)
  have HO2 := hidI ho.ints
  clear HO HI hbs hns bb hgr hbW ho
  have HC := hidI (HC.out.below HB2.out); have B1 := hidI (bthen B1.out HB2.out)
  go_wp2_with fail
  go_fit (impl_CodeText zs _ _ HC.out); rintro e w4 ⟨rfl, b4⟩
  have HC := hidI (HC.out.below b4); have B1 := hidI (bthen B1.out b4); have HO2 := hidI (HO2.out.below b4); clear b4
  go_wp2_with fail
  go_fit (impl_ReadCode (TB (codeText zs)) _ HRD.out.2); rintro e w5 ⟨v5, rfl, o5, b5⟩
  rw [HRD.out.1] at o5
  simp only [Option.getD_some] at o5
  rw [show (readCode (bs (TB (codeText zs)))).isSome = true by rw [HRD.out.1]; rfl]
  have HC := hidI (HC.out.below b5); have B1 := hidI (bthen B1.out b5); have HO2 := hidI (HO2.out.below b5)
  have HX := hidI (IntS.ofOwn o5 HC.out.1).2
  obtain ⟨a5, c5, hv5⟩ := own_slice o5
  subst hv5
  clear o5 b5
  go_wp2_with fail
  go_fit (impl_CodeRun zs S _ _ HX.out); rintro e w6 ⟨rfl, b6⟩
  rw [HR.out]
  have HC := hidI (HC.out.below b6); have B1 := hidI (bthen B1.out b6); have HO2 := hidI (HO2.out.below b6); clear b6
  by_cases h40 : m = 40
  · subst h40
    go_wp2_with fail
    go_fit (impl_CodeTruth zs _ _ HC.out); rintro e w7 ⟨rfl, b7⟩
    rw [HTR.out]
    go_wp2_with fail
    go_ret
    exact ⟨ret_bool (bit_law HTB.out), bthen B1.out b7⟩
  · have h40' : ((m : Int) == 40) = false := by simp; omega
    go_wp2_with fail
    go_fit (impl_CodeRun (zs ++ [7]) S _ _ HO2.out); rintro e w8 ⟨rfl, b8⟩
    rw [HRN.out h40]
    have HC := hidI (HC.out.below b8); have B1 := hidI (bthen B1.out b8); clear b8
    go_wp2_with fail
    go_fit (impl_CodeTruth zs _ _ HC.out); rintro e w7 ⟨rfl, b7⟩
    rw [HTR.out]
    go_wp2_with fail
    go_ret
    refine ⟨?_, bthen B1.out b7⟩
    first | exact ret_bool (bit_law HTB.out) | exact ret_bool (by rw [bit_law HTB.out]; cases R <;> rfl)

set_option maxRecDepth 100000 in
theorem FnCodeRun_lifted (os : Os) (started : os.Started) (H : Type) (enc : TypeId × Value → H) :
    ReturnsInHanded {} Try.checked os 8 .any (Rows.fnCodeRunSpec.pre6 enc Try.prog Try.f8 Rows.fnCodeRunRow.domain false) (Rows.fnCodeRunSpec.post enc Try.prog Try.f8 false true false false) := by
  refine returnsInHanded_of_change (C := Try.checked) own started (by kernel_rfl) Try.func8
    (ChangeSpec.witness6 (enc := enc) (C := Try.checked) false ⟨#[], #[.slice none 0 0], []⟩ 8 (by kernel_rfl) (by kernel_rfl) (by kernel_rfl) (by kernel_rfl)) ?_
  intro W base args ds gs before hval0 hW hcnd _
  have hval : ∀ (j : Nat) t v, Try.f8.params[j]? = some t → args[j]? = some v → Value.okWide Try.prog W .any base t v := hval0
  have hW' := hW
  obtain ⟨p, q, hA0, hV, rfl, hfz, hnd⟩ := hW
  have hA : DataW.TrodAll enc Try.prog W 0 (fun _ => true) true Try.f8.params.toList args.toList ds p := hA0
  rw [Try.params8] at hA hval
  obtain ⟨rfl, rfl⟩ := trodVars_none hV
  clear hA0 hval0
  simp only [List.append_nil] at hW'
  obtain ⟨v0, d0, rfl, rfl, h0⟩ := trodAll_one hA
  have l0 : ∀ x ∈ p, x.block < W.heap.size := fun x hx => by simpa using hW'.lt x hx
  have k0 : ∀ (W' : World), Below W.heap.size W W' → DataW.Trod enc Try.prog W' 0 (fun b => decide (b < W.heap.size)) true 40 v0 d0 p := fun W' hn => Below.trod laidOut (by kernel_rfl) (of_decide_eq_true (by kernel_rfl)) h0 hn l0
  obtain ⟨n, hn⟩ := open_BytS (hval 0 40 v0 rfl rfl) h0 l0
  refine (FnCodeRun_walk n v0 W hn).mono fun e W' ⟨he, hb⟩ => ?_
  subst he
  exact ⟨_, rfl, _, _, _, [], _, [], hW', shut_true, trodAll_mk1 (k0 _ hb), rfl, hb.frame _, fun h => by cases h⟩

theorem FnCodeRun_holds : Rows.FnCodeRunSaid :=
  OpenClaim.holds_of_wide 8 Try.f8 rfl rfl rfl rfl rfl rfl rfl ⟨rfl, rfl, rfl, rfl, rfl⟩ rfl rfl rfl rfl rfl (by kernel_rfl) Try.func8 (by kernel_rfl)
    (of_decide_eq_true (by kernel_rfl)) (by unfold Func.isWrapper; first | (rw [if_pos (by decide +kernel)]; kernel_rfl) | (rw [if_neg (by decide +kernel)]; exact ⟨rfl, rfl⟩))
    (fun os started H enc _ => FnCodeRun_lifted os started H enc)
end Go.Proofs.Ytndbfdgflflfpaa
