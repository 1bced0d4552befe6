/- FnSameCode: for every input the law returns true, and its argument reads as before. -/
import Derived.Test.YtobpikjegfiklaaOpenB
import Derived.Test.YtobpikjegfiklaaDrawC
import Derived.Test.YtobpikjegfiklaaAlive
import Derived.Test.YtobpikjegfiklaaMattP
import Derived.Test.YtobpikjegfiklaaSame
import Derived.Test.YtobpikjegfiklaaPushS
import Derived.Test.YtobpikjegfiklaaSimpS
import Derived.Deep.DeepFit
import Derived.Outline
namespace Go.Proofs.Ytobpikjegfiklaa
open Go.ChangeShapes Go.WideShapes Go.ChangeAt Go.RowKit

theorem same_swap (xs ys : List Int) : sameCode ys xs = sameCode xs ys := by
  unfold sameCode
  have e : (codeTruth ys == codeTruth xs) = (codeTruth xs == codeTruth ys) := by
    by_cases h : codeTruth xs = codeTruth ys
    · rw [h]
    · rw [beq_eq_false_iff_ne.2 h, beq_eq_false_iff_ne.2 (fun e => h e.symm)]
  rw [e, Bool.and_comm (codeValid ys)]

theorem same_self (xs : List Int) : sameCode xs xs = codeValid xs := by unfold sameCode; simp

theorem orIn_same (xs ys : List Int) (h : ∀ S, S < 32 → runAll xs S = runAll ys S) (f : Nat) (hf : f < 5) : ∀ k S, k ≤ 32 → orIn xs f k S = orIn ys f k S
  | 0, S, _ => rfl
  | k + 1, S, hk => by
    have hx : k ^^^ 2 ^ f < 32 := Nat.xor_lt_two_pow (n := 5) (by omega) (Nat.pow_lt_pow_right (by omega) hf)
    rw [orIn, orIn, orIn_same xs ys h f hf k S (by omega), h k (by omega), h _ hx]

theorem mattTo_same (xs ys : List Int) (h : ∀ S, S < 32 → runAll xs S = runAll ys S) : ∀ f, f ≤ 5 → mattTo xs f = mattTo ys f
  | 0, _ => rfl
  | f + 1, hf => by rw [mattTo, mattTo, mattTo_same xs ys h f (by omega), orIn_same xs ys h f (by omega) 32 _ (Nat.le_refl _)]

theorem same_matter {xs ys : List Int} (h : sameCode xs ys = true) : factsMatter xs = factsMatter ys := by
  unfold sameCode at h
  simp only [Bool.and_eq_true, beq_iff_eq] at h
  obtain ⟨⟨hx, hy⟩, ht⟩ := h
  unfold codeTruth at ht
  rw [hx, hy] at ht
  have ht2 : truthTo xs 32 = truthTo ys 32 := by
    generalize truthTo xs 32 = p at ht ⊢
    generalize truthTo ys 32 = q at ht ⊢
    simp only [if_true] at ht
    omega
  have hr : ∀ S, S < 32 → runAll xs S = runAll ys S := fun S hS => by
    have h1 := truthTo_testBit xs 32 S; have h2 := truthTo_testBit ys 32 S
    rw [decide_eq_true hS, Bool.true_and] at h1 h2
    rw [← h1, ← h2, ht2]
  unfold factsMatter
  rw [hx, hy, mattTo_same xs ys hr 5 (Nat.le_refl _)]

set_option maxHeartbeats 1000000 in
theorem spec_DrawSameCode (n : Nat) (v : Value) (w : World) (h : BytS w w.heap.size v n) :
    Calls Try.prog 42 #[v] w fun e w' => ∃ va vb zs zs', e = .returned (.tuple #[va, vb]) ∧ zs.length ≤ 60 ∧ IntS w' va zs ∧ zs'.length ≤ 60 ∧ IntS w' vb zs' ∧ Below w.heap.size w w' := by
  go_enter Try.func42, Try.ntmps42
  go_wp2_with fail
  go_fit (spec_l20Open n v w h); rintro e w1 ⟨rfl, hr, b1⟩
  have HB := hidI b1; have HR := hidI hr; have hlt := hr.lt; clear b1 hr
  go_wp2_with fail
  go_fit (spec_l20Code w.heap.size 0 5 12 w1 HR.out (by omega) (by omega) (by omega) (by omega) (by omega)); rintro e w2 ⟨g, m, cap, rfl, hm, ho, hr, hg⟩
  have HO := hidI ho; have HR := hidI hr; have HG := hidI hg; have hlt3 := Nat.lt_of_lt_of_le hlt hg.size; clear ho hr hg
  go_wp2_with fail
  go_fit (spec_pickI w.heap.size 200 3 w2 HR.out (by omega) (by omega) (by omega)); rintro e w3 ⟨k, rfl, hk, hr, hg⟩
  have HO := hidI (HO.out.grown hg hlt); have HR := hidI hr; have HG := hidI (grown_trans HG.out hg); have hlt4 := Nat.lt_of_lt_of_le hlt3 hg.size; clear hr hg
  have HB3 := hidI (HB.out.grown HG.out HB.out.size (fun k hk => by cases hk; exact Nat.le_refl _))
  obtain ⟨zs, hz, hi⟩ := HO.out.ints
  have HZ := hidI hz; have HI := hidI hi
  have hzl : zs.length ≤ 60 := by omega
  have HZL := hidI hzl
  clear hz hi hzl
  obtain rfl | rfl | rfl : k = 0 ∨ k = 1 ∨ k = 2 := by omega
  · clear hk
    go_wp2_with fail
    go_fit (spec_CodeSimple zs _ w3 HI.out (by have := HZL.out; omega)); rintro e w4 ⟨v4, rfl, o4, b4⟩
    have I4 := hidI (IntS.ofOwn o4 (codeSimple_I64 zs)).2
    have I5 := hidI (HI.out.below b4); have B4 := hidI (HB3.out.trans (b4.mono HB3.out.size))
    clear o4 b4
    obtain ⟨a4, c4, hv4⟩ : ∃ a c, v4 = .slice a (codeSimple zs).length c := by obtain ⟨_, a, c, h1, _⟩ := I4.out; exact ⟨a, c, h1⟩
    subst hv4
    go_wp2_with fail
    go_ret2
    exact ⟨_, _, zs, codeSimple zs, rfl, HZL.out, I5.out, by have := codeSimple_small zs; omega, I4.out, B4.out⟩
  · clear hk
    go_wp2_with fail
    go_fit (spec_CodePush zs _ w3 HI.out (by have := HZL.out; omega)); rintro e w4 ⟨v4, rfl, o4, b4⟩
    have I4 := hidI (IntS.ofOwn o4 (codePush_I64 zs)).2
    have I5 := hidI (HI.out.below b4); have B4 := hidI (HB3.out.trans (b4.mono HB3.out.size))
    clear o4 b4
    obtain ⟨a4, c4, hv4⟩ : ∃ a c, v4 = .slice a ((codePush zs).getD []).length c := by obtain ⟨_, a, c, h1, _⟩ := I4.out; exact ⟨a, c, h1⟩
    subst hv4
    go_wp2_with fail
    go_ret2
    exact ⟨_, _, zs, (codePush zs).getD [], rfl, HZL.out, I5.out, by have := codePush_small zs; omega, I4.out, B4.out⟩
  · clear hk
    go_wp2_with fail
    go_fit (spec_l20Code w.heap.size 201 2 12 w3 HR.out (by omega) (by omega) (by omega) (by omega) (by omega)); rintro e w4 ⟨g', m', cap', rfl, hm', ho, hr, hg⟩
    have HO := hidI (HO.out.grown hg hlt); have HP := hidI ho; have HG := hidI (grown_trans HG.out hg)
    clear ho hr hg
    obtain ⟨zs1, hz1, hi1⟩ := HO.out.ints
    obtain ⟨zs2, hz2, hi2⟩ := HP.out.ints
    have HI1 := hidI hi1; have HI2 := hidI hi2; have HZ1 := hidI hz1; have HZ2 := hidI hz2
    clear hi1 hi2 hz1 hz2
    go_wp2_with fail
    go_ret2
    exact ⟨_, _, zs1, zs2, rfl, by have := HZ1.out; omega, HI1.out, by have := HZ2.out; omega, HI2.out, HB.out.grown HG.out HB.out.size (fun k hk => by cases hk; exact Nat.le_refl _)⟩

set_option maxRecDepth 100000 in
set_option maxHeartbeats 2000000 in
theorem FnSameCode_walk (n : Nat) (v : Value) (w : World) (h : BytS w w.heap.size v n) :
    Calls Try.prog 11 #[v] w fun e w' => e = .returned (.bool true) ∧ Below w.heap.size w w' := by
  obtain ⟨bao, bcap, hv⟩ : ∃ ao cap, v = .slice ao n cap := by obtain ⟨ao, cap, h1, _⟩ := h; exact ⟨ao, cap, h1⟩
  subst hv
  have HV := hidI h; clear h
  by_cases hbig : 1048576 < n
  · go_enter Try.func11, Try.ntmps11
    go_wp2_with fail
    go_ret
    exact ⟨rfl, Below.refl _ _⟩
  have hbig2 : (n : Int) ≤ 1048576 := by omega
  go_enter Try.func11, Try.ntmps11
  go_wp2_with fail
  go_fit (spec_DrawSameCode n _ w HV.out); rintro e w1 ⟨va, vb, xs, ys, rfl, hxl, hx, hyl, hy, b1⟩
  have HX := hidI hx; have HY := hidI hy; have B1 := hidI b1; have HXL := hidI hxl; have HYL := hidI hyl
  obtain ⟨aa, ca, hva⟩ : ∃ a c, va = .slice a xs.length c := by obtain ⟨_, a, c, h1, _⟩ := hx; exact ⟨a, c, h1⟩
  obtain ⟨ab, cb, hvb⟩ : ∃ a c, vb = .slice a ys.length c := by obtain ⟨_, a, c, h1, _⟩ := hy; exact ⟨a, c, h1⟩
  subst hva; subst hvb
  clear hx hy b1 hxl hyl
  have E1 := hidI (same_swap xs ys); have E2 := hidI (same_self xs); have E3 := hidI (fun h => same_matter (xs := xs) (ys := ys) h)
  go_wp2_with fail
  go_fit (impl_SameCode xs ys _ _ w1 HX.out HY.out); rintro e w2 ⟨rfl, b2⟩
  have HX := hidI (HX.out.below b2); have HY := hidI (HY.out.below b2); have B1 := hidI (bthen B1.out b2); clear b2
  generalize hob : sameCode xs ys = ob
  have HOB := hidI hob; clear hob
  go_wp2_with fail
  go_fit (spec_SameCode xs ys _ _ w2 HX.out HY.out (by have := HXL.out; omega) (by have := HYL.out; omega)); rintro e w3 ⟨rfl, b3⟩
  have HX := hidI (HX.out.below b3); have HY := hidI (HY.out.below b3); have B1 := hidI (bthen B1.out b3); clear b3
  rw [HOB.out]
  cases ob
  all_goals
    go_wp2_with fail
    go_fit (impl_SameCode ys xs _ _ w3 HY.out HX.out); rintro e w4 ⟨rfl, b4⟩
    have HX := hidI (HX.out.below b4); have HY := hidI (HY.out.below b4); have B1 := hidI (bthen B1.out b4); clear b4
    rw [E1.out, HOB.out]
    go_wp2_with fail
    go_fit (impl_SameCode xs xs _ _ w4 HX.out HX.out); rintro e w5 ⟨rfl, b5⟩
    have HX := hidI (HX.out.below b5); have HY := hidI (HY.out.below b5); have B1 := hidI (bthen B1.out b5); clear b5
    rw [E2.out]
    go_wp2_with fail
    go_fit (impl_CodeValid xs _ w5 HX.out); rintro e w' ⟨rfl, rfl⟩
    generalize codeValid xs = cv
  · cases cv
    all_goals
      go_wp2_with fail
      go_fit (laws_alive _); rintro e w9 ⟨rfl, b9⟩
      go_wp2_with fail
      go_ret
      exact ⟨rfl, bthen B1.out b9⟩
  · cases cv
    all_goals
      go_wp2_with fail
      go_fit (impl_FactsMatter xs _ _ HX.out); rintro e w6 ⟨rfl, b6⟩
      have HY := hidI (HY.out.below b6); have B1 := hidI (bthen B1.out b6); clear b6
      go_wp2_with fail
      go_fit (impl_FactsMatter ys _ _ HY.out); rintro e w7 ⟨rfl, b7⟩
      have B1 := hidI (bthen B1.out b7); clear b7
      rw [← E3.out HOB.out]
      generalize factsMatter xs = q
      go_wp2_with fail
      go_fit (laws_alive _); rintro e w9 ⟨rfl, b9⟩
      go_wp2_with fail
      go_ret
      exact ⟨rfl, bthen B1.out b9⟩

set_option maxRecDepth 100000 in
theorem FnSameCode_lifted (os : Os) (started : os.Started) (H : Type) (enc : TypeId × Value → H) :
    ReturnsInHanded {} Try.checked os 11 .any (Rows.fnSameCodeSpec.pre6 enc Try.prog Try.f11 Rows.fnSameCodeRow.domain false) (Rows.fnSameCodeSpec.post enc Try.prog Try.f11 false true false false) := by
  refine returnsInHanded_of_change (C := Try.checked) own started (by kernel_rfl) Try.func11
    (ChangeSpec.witness6 (enc := enc) (C := Try.checked) false ⟨#[], #[.slice none 0 0], []⟩ 8 (by kernel_rfl) (by kernel_rfl) (by kernel_rfl) (by kernel_rfl)) ?_
  intro W base args ds gs before hval0 hW hcnd _
  have hval : ∀ (j : Nat) t v, Try.f11.params[j]? = some t → args[j]? = some v → Value.okWide Try.prog W .any base t v := hval0
  have hW' := hW
  obtain ⟨p, q, hA0, hV, rfl, hfz, hnd⟩ := hW
  have hA : DataW.TrodAll enc Try.prog W 0 (fun _ => true) true Try.f11.params.toList args.toList ds p := hA0
  rw [Try.params11] at hA hval
  obtain ⟨rfl, rfl⟩ := trodVars_none hV
  clear hA0 hval0
  simp only [List.append_nil] at hW'
  obtain ⟨v0, d0, rfl, rfl, h0⟩ := trodAll_one hA
  have l0 : ∀ x ∈ p, x.block < W.heap.size := fun x hx => by simpa using hW'.lt x hx
  have k0 : ∀ (W' : World), Below W.heap.size W W' → DataW.Trod enc Try.prog W' 0 (fun b => decide (b < W.heap.size)) true 22 v0 d0 p := fun W' hn => Below.trod laidOut (by kernel_rfl) (of_decide_eq_true (by kernel_rfl)) h0 hn l0
  obtain ⟨n, hn⟩ := open_BytS (hval 0 22 v0 rfl rfl) h0 l0
  refine (FnSameCode_walk n v0 W hn).mono fun e W' ⟨he, hb⟩ => ?_
  subst he
  exact ⟨_, rfl, _, _, _, [], _, [], hW', shut_true, trodAll_mk1 (k0 _ hb), rfl, hb.frame _, fun h => by cases h⟩

theorem FnSameCode_holds : Rows.FnSameCodeSaid :=
  OpenClaim.holds_of_wide 11 Try.f11 rfl rfl rfl rfl rfl rfl rfl ⟨rfl, rfl, rfl, rfl, rfl⟩ rfl rfl rfl rfl rfl (by kernel_rfl) Try.func11 (by kernel_rfl)
    (of_decide_eq_true (by kernel_rfl)) (by unfold Func.isWrapper; first | (rw [if_pos (by decide +kernel)]; kernel_rfl) | (rw [if_neg (by decide +kernel)]; exact ⟨rfl, rfl⟩))
    (fun os started H enc _ => FnSameCode_lifted os started H enc)
end Go.Proofs.Ytobpikjegfiklaa
