/- FnCodeSimple: for every input the law returns true, and its argument reads as before. -/
import Derived.Test.YtnalhgknjnaliaaOpenB
import Derived.Test.YtnalhgknjnaliaaDrawC
import Derived.Test.YtnalhgknjnaliaaAlive
import Derived.Test.YtnalhgknjnaliaaRunP
import Derived.Test.YtnalhgknjnaliaaSame
import Derived.Test.YtnalhgknjnaliaaLawH
import Derived.Test.YtnalhgknjnaliaaTreeD
import Derived.Deep.DeepFit
import Derived.Outline
namespace Go.Proofs.Ytnalhgknjnaliaa
open Go.ChangeShapes Go.WideShapes Go.ChangeAt Go.RowKit

theorem same_ev {a b : Cond} (ha : a.Ok) (hb : b.Ok) (la : a.steps.length ≤ 40) (lb : b.steps.length ≤ 40) (h : ∀ S, ev S a = ev S b) : sameCode a.steps b.steps = true := by
  unfold sameCode codeTruth
  rw [valid_cond ha la, valid_cond hb lb, truthTo_ev ha hb h 32]
  simp

set_option maxHeartbeats 1000000 in
theorem spec_DrawCodeSimple (n : Nat) (v : Value) (w : World) (h : BytS w w.heap.size v n) :
    Calls Try.prog 33 #[v] w fun e w' => ∃ vb zs', e = .returned vb ∧ zs'.length ≤ 60 ∧ IntS w' vb zs' ∧ Below w.heap.size w w' := by
  go_enter Try.func33, Try.ntmps33
  go_wp2_with fail
  go_fit (spec_l20Open n v w h); rintro e w1 ⟨rfl, hr, b1⟩
  have HB := hidI b1; have HR := hidI hr; have hlt := hr.lt; clear b1 hr
  go_wp2_with fail
  go_fit (spec_l20Code w.heap.size 0 4 9 w1 HR.out (by omega) (by omega) (by omega) (by omega) (by omega)); rintro e w2 ⟨g, m, cap, rfl, hm, ho, hr, hg⟩
  have HO := hidI ho; have HR := hidI hr; have HG := hidI hg; have hlt3 := Nat.lt_of_lt_of_le hlt hg.size; clear ho hr hg
  go_wp2_with fail
  go_fit (spec_pickI w.heap.size 200 2 w2 HR.out (by omega) (by omega) (by omega)); rintro e w3 ⟨k, rfl, hk, hr, hg⟩
  have HO := hidI (HO.out.grown hg hlt); have HR := hidI hr; have HG := hidI (grown_trans HG.out hg); clear hr hg
  obtain ⟨zs, hz, hi⟩ := HO.out.ints
  have HZ := hidI hz; have HI := hidI hi
  have hzl : zs.length ≤ 60 := by omega
  have HZL := hidI hzl
  clear hz hi hzl
  have hk0 : (0 : Int) ≤ (k : Int) := by omega
  have hk1 : (k : Int) ≤ 1 := by omega
  have HK64 := hidI (show I64 (8 + (k : Int)) by unfold I64; omega)
  go_wp2_with fail
  go_fit (spec_CodeJoin zs zs (8 + (k : Int)) _ _ w3 HI.out HI.out (by have := HZL.out; omega) (by have := HZL.out; omega) HK64.out); rintro e w4 ⟨v4, rfl, o4, b4⟩
  have hjs := join_I64 HI.out.1 HI.out.1 HK64.out
  have I4 := hidI (IntS.ofOwn o4 hjs).2
  have I5 := hidI (HI.out.below b4)
  have hlj : ((codeJoin zs zs (8 + (k : Int))).getD []).length ≤ 60 := by
    cases hj : codeJoin zs zs (8 + (k : Int)) with
    | none => simp
    | some z =>
      obtain ⟨-, -, -, hz, hv⟩ := join_some hj
      have := ((valid_iff z).1 hv).2
      simpa using (by omega : z.length ≤ 60)
  have HLJ := hidI hlj
  have HB4 := hidI ((HB.out.grown HG.out HB.out.size (fun k hk => by cases hk; exact Nat.le_refl _)).trans (b4.mono (HB.out.grown HG.out HB.out.size (fun k hk => by cases hk; exact Nat.le_refl _)).size))
  have HR4 := hidI (HR.out.below b4)
  have hlt4 : w.heap.size < w4.heap.size := Nat.lt_of_lt_of_le (HR.out.lt) b4.size
  have HN4 := hidI (fun k (hk : v4.ownBlock = some k) => (o4.lt k hk).1)
  have h13 : w1.heap.size ≤ w3.heap.size := Nat.le_trans HG.out.size (Nat.le_refl _)
  have hgb := HO.out.lt
  clear o4 b4 hjs hlj
  generalize (codeJoin zs zs (8 + (k : Int))).isSome = ob
  generalize (codeJoin zs zs (8 + (k : Int))).getD [] = ys at *
  obtain ⟨a4, c4, hv4⟩ : ∃ a c, v4 = .slice a ys.length c := by obtain ⟨_, a, c, h1, _⟩ := I4.out; exact ⟨a, c, h1⟩
  subst hv4
  cases ob
  · go_wp2_with fail
    go_ret
    exact ⟨_, zs, rfl, HZL.out, I5.out, HB4.out⟩
  · go_wp2_with fail
    go_fit (spec_pickI w.heap.size 201 3 w4 HR4.out (by omega) (by omega) (by omega)); rintro e w5 ⟨j, rfl, hj, hr, hg⟩
    have J5 := hidI (I5.out.grown hg (.inr (by simp only [Value.ownBlock]; intro e; injection e with e; omega)))
    have J4 := hidI (I4.out.grown hg (by
      cases e : (Value.slice a4 ys.length c4).ownBlock with
      | none => exact .inl rfl
      | some k => exact .inr (fun h' => by have := HN4.out k e; injection h' with h'; omega)))
    have HB5 := hidI (HB4.out.grown hg HB4.out.size (fun k hk => by cases hk; exact Nat.le_refl _))
    clear hr hg hgb
    obtain rfl | rfl | rfl : j = 0 ∨ j = 1 ∨ j = 2 := by omega
    · clear hj
      go_wp2_with fail
      go_ret
      exact ⟨_, ys, rfl, HLJ.out, J4.out, HB5.out⟩
    · clear hj
      go_wp2_with fail
      go_ret
      exact ⟨_, zs, rfl, HZL.out, J5.out, HB5.out⟩
    · clear hj
      go_wp2_with fail
      go_ret
      exact ⟨_, zs, rfl, HZL.out, J5.out, HB5.out⟩

set_option maxRecDepth 100000 in
set_option maxHeartbeats 2000000 in
theorem FnCodeSimple_walk (n : Nat) (v : Value) (w : World) (h : BytS w w.heap.size v n) :
    Calls Try.prog 8 #[v] w fun e w' => e = .returned (.bool true) ∧ Below w.heap.size w w' := by
  obtain ⟨bao, bcap, hv⟩ : ∃ ao cap, v = .slice ao n cap := by obtain ⟨ao, cap, h1, _⟩ := h; exact ⟨ao, cap, h1⟩
  subst hv
  have HV := hidI h; clear h
  by_cases hbig : 1048576 < n
  · go_enter Try.func8, Try.ntmps8
    go_wp2_with fail
    go_ret
    exact ⟨rfl, Below.refl _ _⟩
  have hbig2 : (n : Int) ≤ 1048576 := by omega
  go_enter Try.func8, Try.ntmps8
  go_wp2_with fail
  go_fit (spec_DrawCodeSimple n _ w HV.out); rintro e w1 ⟨va, xs, rfl, hxl, hx, b1⟩
  have HX := hidI hx; have B1 := hidI b1; have HXL := hidI hxl
  obtain ⟨aa, ca, hva⟩ : ∃ a c, va = .slice a xs.length c := by obtain ⟨_, a, c, h1, _⟩ := hx; exact ⟨a, c, h1⟩
  subst hva
  clear hx b1 hxl
  have HI := hidI (codeSimple_I64 xs); have HSM := hidI (codeSimple_small xs)
  go_wp2_with fail
  go_fit (impl_CodeSimple xs _ w1 HX.out); rintro e w2 ⟨vg, rfl, o2, b2⟩
  have HX := hidI (HX.out.below b2); have B1 := hidI (bthen B1.out b2); have IG := hidI (IntS.ofOwn o2 HI.out).2; clear o2 b2
  obtain ⟨ag, cg, hvg⟩ : ∃ a c, vg = .slice a (codeSimple xs).length c := by obtain ⟨_, a, c, h1, _⟩ := IG.out; exact ⟨a, c, h1⟩
  subst hvg
  go_wp2_with fail
  go_fit (spec_CodeSimple xs _ w2 HX.out (by have := HXL.out; omega)); rintro e w3 ⟨vs, rfl, o3, b3⟩
  have HX := hidI (HX.out.below b3); have B1 := hidI (bthen B1.out b3); have IS := hidI (IntS.ofOwn o3 HI.out).2; have IG := hidI (IG.out.below b3); clear o3 b3
  go_wp2_with fail
  go_fit (sameInts_any _ _ _ _ w3 IG.out IS.out); rintro e w4 ⟨rfl, n4, hw4⟩
  have b4 := bdraw w3 n4
  rw [← hw4] at b4
  have HX := hidI (HX.out.below b4); have B1 := hidI (bthen B1.out b4); have IG := hidI (IG.out.below b4); clear b4 hw4 IS
  simp only [decide_true]
  go_wp2_with fail
  go_fit (spec_CodeValid xs _ w4 HX.out (by have := HXL.out; omega)); rintro e w' ⟨rfl, rfl⟩
  cases hv : codeValid xs
  · have h0 : (codeSimple xs).length = 0 := by rw [codeSimple_no hv]; rfl
    rw [h0]
    clear hv h0
    go_wp2_with fail
    go_fit (laws_alive _); rintro e w9 ⟨rfl, b9⟩
    go_wp2_with fail
    go_ret
    exact ⟨rfl, bthen B1.out b9⟩
  · obtain ⟨t, hk, rfl, h40, h1, -, -⟩ := valid_tree hv
    have e1 := codeSimple_tree hv hk
    have hok := smp_Ok t hk
    have hle := smp_len t
    have E2 := hidI (valid_cond hok (by omega))
    have E3 := hidI (same_ev hok hk (by omega) h40 (fun S => smp_ev S t hk))
    have E4 : Hid (codeSimple (smp t).steps = (smp t).steps) := hidI (by rw [codeSimple_tree E2.out hok, smp_smp])
    rw [e1] at IG
    rw [e1]
    have hle2 : ((smp t).steps.length : Int) ≤ (t.steps.length : Int) := by omega
    have HI2 := hidI (steps_I64 hok)
    clear hv hk e1 hok hle h1 h40 HI HSM
    generalize (smp t).steps = q at *
    go_wp2_with fail
    go_fit (impl_CodeValid q _ w4 IG.out); rintro e w' ⟨rfl, rfl⟩
    rw [E2.out]
    go_wp2_with fail
    go_fit (impl_SameCode q t.steps _ _ w4 IG.out HX.out); rintro e w5 ⟨rfl, b5⟩
    rw [E3.out]
    have IG := hidI (IG.out.below b5); have B1 := hidI (bthen B1.out b5); clear b5
    go_wp2_with fail
    go_fit (impl_CodeSimple q _ w5 IG.out); rintro e w6 ⟨vh, rfl, o6, b6⟩
    have IG := hidI (IG.out.below b6); have B1 := hidI (bthen B1.out b6)
    rw [E4.out] at o6
    have IH := hidI (IntS.ofOwn o6 HI2.out).2; clear o6 b6
    go_wp2_with fail
    go_fit (sameInts_any _ _ _ _ w6 IH.out IG.out); rintro e w7 ⟨rfl, n7, hw7⟩
    have b7 := bdraw w6 n7
    rw [← hw7] at b7; clear hw7
    simp only [decide_true]
    go_wp2_with fail
    go_ret
    exact ⟨rfl, bthen B1.out b7⟩

set_option maxRecDepth 100000 in
theorem FnCodeSimple_lifted (os : Os) (started : os.Started) (H : Type) (enc : TypeId × Value → H) :
    ReturnsInHanded {} Try.checked os 8 .any (Rows.fnCodeSimpleSpec.pre6 enc Try.prog Try.f8 Rows.fnCodeSimpleRow.domain false) (Rows.fnCodeSimpleSpec.post enc Try.prog Try.f8 false true false false) := by
  refine returnsInHanded_of_change (C := Try.checked) own started (by kernel_rfl) Try.func8
    (ChangeSpec.witness6 (enc := enc) (C := Try.checked) false ⟨#[], #[.slice none 0 0], []⟩ 8 (by kernel_rfl) (by kernel_rfl) (by kernel_rfl) (by kernel_rfl)) ?_
  intro W base args ds gs before hval0 hW hcnd _
  have hval : ∀ (j : Nat) t v, Try.f8.params[j]? = some t → args[j]? = some v → Value.okWide Try.prog W .any base t v := hval0
  have hW' := hW
  obtain ⟨p, q, hA0, hV, rfl, hfz, hnd⟩ := hW
  have hA : DataW.TrodAll enc Try.prog W 0 (fun _ => true) true Try.f8.params.toList args.toList ds p := hA0
  rw [Try.params8] at hA hval
  obtain ⟨rfl, rfl⟩ := trodVars_none hV
  clear hA0 hval0
  simp only [List.append_nil] at hW'
  obtain ⟨v0, d0, rfl, rfl, h0⟩ := trodAll_one hA
  have l0 : ∀ x ∈ p, x.block < W.heap.size := fun x hx => by simpa using hW'.lt x hx
  have k0 : ∀ (W' : World), Below W.heap.size W W' → DataW.Trod enc Try.prog W' 0 (fun b => decide (b < W.heap.size)) true 22 v0 d0 p := fun W' hn => Below.trod laidOut (by kernel_rfl) (of_decide_eq_true (by kernel_rfl)) h0 hn l0
  obtain ⟨n, hn⟩ := open_BytS (hval 0 22 v0 rfl rfl) h0 l0
  refine (FnCodeSimple_walk n v0 W hn).mono fun e W' ⟨he, hb⟩ => ?_
  subst he
  exact ⟨_, rfl, _, _, _, [], _, [], hW', shut_true, trodAll_mk1 (k0 _ hb), rfl, hb.frame _, fun h => by cases h⟩

theorem FnCodeSimple_holds : Rows.FnCodeSimpleSaid :=
  OpenClaim.holds_of_wide 8 Try.f8 rfl rfl rfl rfl rfl rfl rfl ⟨rfl, rfl, rfl, rfl, rfl⟩ rfl rfl rfl rfl rfl (by kernel_rfl) Try.func8 (by kernel_rfl)
    (of_decide_eq_true (by kernel_rfl)) (by unfold Func.isWrapper; first | (rw [if_pos (by decide +kernel)]; kernel_rfl) | (rw [if_neg (by decide +kernel)]; exact ⟨rfl, rfl⟩))
    (fun os started H enc _ => FnCodeSimple_lifted os started H enc)
end Go.Proofs.Ytnalhgknjnaliaa
