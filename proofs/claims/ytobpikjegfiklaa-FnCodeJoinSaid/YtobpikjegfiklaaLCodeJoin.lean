/- FnCodeJoin: for every input the law returns true, and its argument reads as before. -/
import Derived.Test.YtobpikjegfiklaaOpenB
import Derived.Test.YtobpikjegfiklaaDrawC
import Derived.Test.YtobpikjegfiklaaAlive
import Derived.Test.YtobpikjegfiklaaRunP
import Derived.Test.YtobpikjegfiklaaSame
import Derived.Test.YtobpikjegfiklaaLawH
import Derived.Deep.DeepFit
import Derived.Outline
namespace Go.Proofs.Ytobpikjegfiklaa
open Go.ChangeShapes Go.WideShapes Go.ChangeAt Go.RowKit

set_option maxHeartbeats 1000000 in
theorem spec_DrawCodeJoin (n : Nat) (v : Value) (w : World) (h : BytS w w.heap.size v n) :
    Calls Try.prog 30 #[v] w fun e w' => ∃ g m cap zs g' m' cap' zs' s, e = .returned (.tuple #[.slice (some ⟨g, 0, none⟩) m cap, .slice (some ⟨g', 0, none⟩) m' cap', .int .i64 s]) ∧ m ≤ 60 ∧ zs.length = m ∧ IntS w' (.slice (some ⟨g, 0, none⟩) m cap) zs ∧
      m' ≤ 60 ∧ zs'.length = m' ∧ IntS w' (.slice (some ⟨g', 0, none⟩) m' cap') zs' ∧ I64 s ∧ Below w.heap.size w w' := by
  go_enter Try.func30, Try.ntmps30
  go_wp2_with fail
  go_fit (spec_l20Open n v w h); rintro e w1 ⟨rfl, hr, b1⟩
  have HB := hidI b1; have HR := hidI hr; have hlt := hr.lt; clear b1 hr
  go_wp2_with fail
  go_fit (spec_l20Code w.heap.size 0 4 12 w1 HR.out (by omega) (by omega) (by omega) (by omega) (by omega)); rintro e w2 ⟨g, m, cap, rfl, hm, ho, hr, hg⟩
  have HO := hidI ho; have HR := hidI hr; have HG := hidI hg; have hlt3 := Nat.lt_of_lt_of_le hlt hg.size; clear ho hr hg
  go_wp2_with fail
  go_fit (spec_l20Code w.heap.size 200 3 12 w2 HR.out (by omega) (by omega) (by omega) (by omega) (by omega)); rintro e w3 ⟨g', m', cap', rfl, hm', ho, hr, hg⟩
  have HO := hidI (HO.out.grown hg hlt); have HP := hidI ho; have HR := hidI hr; have HG := hidI (grown_trans HG.out hg)
  clear ho hr hg
  go_wp2_with fail
  go_fit (spec_pickI w.heap.size 400 2 w3 HR.out (by omega) (by omega) (by omega)); rintro e w4 ⟨k, rfl, hk, hr, hg⟩
  have HO := hidI (HO.out.grown hg hlt); have HP := hidI (HP.out.grown hg hlt3); have HR := hidI hr; have HG := hidI (grown_trans HG.out hg); clear hr hg
  go_wp2_with fail
  go_fit (spec_pickI w.heap.size 401 14 w4 HR.out (by omega) (by omega) (by omega)); rintro e w5 ⟨j, rfl, hj, hr, hg⟩
  have HO := hidI (HO.out.grown hg hlt); have HP := hidI (HP.out.grown hg hlt3); have HG := hidI (grown_trans HG.out hg); clear hr hg
  obtain ⟨zs, hz, hi⟩ := HO.out.ints
  obtain ⟨zs', hz', hi'⟩ := HP.out.ints
  have HZ := hidI hz; have HZ' := hidI hz'; have HI := hidI hi; have HI' := hidI hi'
  clear hz hz' hi hi'
  go_wp2_with fail
  go_ret3
  exact ⟨g, m, cap, zs, g', m', cap', zs', _, rfl, hm, HZ.out, HI.out, hm', HZ'.out, HI'.out, by unfold I64; omega, HB.out.grown HG.out HB.out.size (fun k hk => by cases hk; exact Nat.le_refl _)⟩

set_option maxRecDepth 100000 in
set_option maxHeartbeats 2000000 in
theorem FnCodeJoin_walk (n : Nat) (v : Value) (w : World) (h : BytS w w.heap.size v n) :
    Calls Try.prog 8 #[v] w fun e w' => e = .returned (.bool true) ∧ Below w.heap.size w w' := by
  obtain ⟨bao, bcap, hv⟩ : ∃ ao cap, v = .slice ao n cap := by obtain ⟨ao, cap, h1, _⟩ := h; exact ⟨ao, cap, h1⟩
  subst hv
  have HV := hidI h; clear h
  by_cases hbig : 1048576 < n
  · go_enter Try.func8, Try.ntmps8
    go_wp2_with fail
    go_ret
    exact ⟨rfl, Below.refl _ _⟩
  have hbig2 : (n : Int) ≤ 1048576 := by omega
  go_enter Try.func8, Try.ntmps8
  go_wp2_with fail
  go_fit (spec_DrawCodeJoin n _ w HV.out); rintro e w1 ⟨g, m, cap, xs, g', m', cap', ys, s, rfl, hm, hz, hx, hm', hz', hy, hs, b1⟩
  have HX := hidI hx; have HY := hidI hy; have B1 := hidI b1; have HS := hidI hs
  have hxl : xs.length ≤ 60 := by omega
  have hyl : ys.length ≤ 60 := by omega
  have HZ := hidI hz; have HZ' := hidI hz'
  clear hx hy b1 hz hz' hs
  go_wp2_with fail
  go_fit (impl_CodeJoin xs ys s _ _ w1 HX.out HY.out (by omega) (by omega)); rintro e w2 ⟨va, rfl, o2, b2⟩
  have HX2 := hidI (HX.out.below b2); have HY2 := hidI (HY.out.below b2); have B2 := hidI (bthen B1.out b2); have O2 := hidI o2
  clear o2 b2
  generalize hob : (codeJoin xs ys s).isSome = ob
  have HOB := hidI hob; clear hob
  go_wp2_with fail
  go_fit (spec_CodeJoin xs ys s _ _ w2 HX2.out HY2.out (by omega) (by omega) HS.out); rintro e w3 ⟨vb, rfl, o3, b3⟩
  have HX3 := hidI (HX2.out.below b3); have HY3 := hidI (HY2.out.below b3); have B3 := hidI (bthen B2.out b3)
  have HI64 := hidI (join_I64 HX.out.1 HY.out.1 HS.out)
  have IA := hidI (IntS.ofOwn O2.out HI64.out).2
  have IA := hidI (IA.out.below b3)
  have IB := hidI (IntS.ofOwn o3 HI64.out).2
  clear o3 b3
  rw [HOB.out]
  go_wp2_with fail
  go_fit (sameInts_any _ _ _ _ w3 IA.out IB.out); rintro e w4 ⟨rfl, n4, rfl⟩
  have b4 := bdraw w3 n4
  have HX4 := hidI (HX3.out.below b4); have HY4 := hidI (HY3.out.below b4); have B4 := hidI (bthen B3.out b4); have IA := hidI (IA.out.below b4)
  simp only [decide_true]
  cases hj : codeJoin xs ys s with
  | none =>
    have hob : ob = false := by rw [← HOB.out, hj]; rfl
    subst hob
    have h0 : ((codeJoin xs ys s).getD []).length = 0 := by rw [hj]; rfl
    obtain ⟨ca, aa, hva⟩ : ∃ ca aa, va = .slice aa 0 ca := by obtain ⟨_, a, c, h1, h2, _⟩ := IA.out; exact ⟨c, a, by rw [h1, h0]⟩
    rw [hva]
    clear b4 hj h0
    go_wp2_with fail
    go_fit (laws_alive _); rintro e w5 ⟨rfl, b5⟩
    go_wp2_with fail
    go_ret
    exact ⟨rfl, bthen B4.out b5⟩
  | some z =>
    have hob : ob = true := by rw [← HOB.out, hj]; rfl
    subst hob
    obtain ⟨hs89, hvx, hvy, hzz, hvz⟩ := join_some hj
    have hfx := ((valid_iff _).1 hvx).1; have hfy := ((valid_iff _).1 hvy).1
    have HTX := hidI (show codeTruth xs = (truthTo xs 32 : Nat) by unfold codeTruth; rw [hvx]; rfl)
    have HTY := hidI (show codeTruth ys = (truthTo ys 32 : Nat) by unfold codeTruth; rw [hvy]; rfl)
    have htj := truth_join xs ys s hfx hfy hs89
    have HTZ := hidI (show codeTruth z = (truthTo z 32 : Nat) by unfold codeTruth; rw [hvz]; rfl)
    rw [← hzz] at htj
    have hlz : z.length = m + m' + 1 := by rw [hzz, ← HZ.out, ← HZ'.out]; simp; omega
    have IZ : IntS (w3.drewN n4) va z := by have := IA.out; rw [hj] at this; exact this
    obtain ⟨ca, aa, hva⟩ : ∃ ca aa, va = .slice aa (m + m' + 1) ca := by obtain ⟨_, a, c, h1, h2, _⟩ := IZ; exact ⟨c, a, by rw [h1, hlz]⟩
    subst hva
    have HIZ := hidI IZ; clear IZ IA IB O2 b4 hj hvx hvy hvz hzz hfx hfy hlz
    have hp := truthTo_small xs (Nat.le_refl 32); have hq := truthTo_small ys (Nat.le_refl 32)
    have hor := or_add_and (truthTo xs 32) (truthTo xs 32) (truthTo ys 32) (Nat.le_refl _)
    have hal := Nat.and_le_left (n := truthTo xs 32) (m := truthTo ys 32)
    have HBO := hidI (fun (w : World) => laws_both (truthTo xs 32) (truthTo ys 32) w (by omega) (by omega))
    have hjs : (truthTo z 32 : Int) = if s = 8 then (((truthTo xs 32 &&& truthTo ys 32 : Nat)) : Int) else (truthTo xs 32 : Int) + (truthTo ys 32 : Int) - ((truthTo xs 32 &&& truthTo ys 32 : Nat) : Int) := by
      rw [htj]; rcases hs89 with rfl | rfl
      · rw [if_pos rfl, if_pos rfl]
      · rw [if_neg (by omega), if_neg (by omega)]; omega
    clear htj hor
    obtain ⟨P, hP⟩ : ∃ P : Int, P = (truthTo xs 32 : Nat) := ⟨_, rfl⟩
    obtain ⟨Q, hQ⟩ : ∃ Q : Int, Q = (truthTo ys 32 : Nat) := ⟨_, rfl⟩
    obtain ⟨R, hR⟩ : ∃ R : Int, R = ((truthTo xs 32 &&& truthTo ys 32 : Nat) : Int) := ⟨_, rfl⟩
    obtain ⟨Z, hZ⟩ : ∃ Z : Int, Z = (truthTo z 32 : Nat) := ⟨_, rfl⟩
    have hP0 : 0 ≤ P := by rw [hP]; omega
    have hQ0 : 0 ≤ Q := by rw [hQ]; omega
    have hP1 : P < 4294967296 := by rw [hP]; omega
    have hQ1 : Q < 4294967296 := by rw [hQ]; omega
    have hR0 : 0 ≤ R := by rw [hR]; omega
    have hR1 : R ≤ P := by rw [hR, hP]; omega
    rw [← hP] at HTX HBO hjs; rw [← hQ] at HTY HBO hjs; rw [← hR] at HBO hjs; rw [← hZ] at HTZ hjs
    clear hP hQ hR hZ hp hq hal
    rcases hs89 with rfl | rfl
    · rw [if_pos rfl] at hjs
      have HJ := hidI hjs; clear hjs
      go_wp2_with fail
      go_fit (impl_CodeTruth xs _ _ HX4.out); rintro e w5 ⟨rfl, b5⟩
      have HY4 := hidI (HY4.out.below b5); have HIZ := hidI (HIZ.out.below b5); have B4 := hidI (bthen B4.out b5); clear b5
      rw [HTX.out]
      go_wp2_with fail
      go_fit (impl_CodeTruth ys _ _ HY4.out); rintro e w6 ⟨rfl, b6⟩
      have HIZ := hidI (HIZ.out.below b6); have B4 := hidI (bthen B4.out b6); clear b6
      rw [HTY.out]
      go_wp2_with fail
      go_fit (HBO.out _); rintro e w' ⟨rfl, rfl⟩
      go_wp2_with fail
      go_fit (impl_CodeTruth z _ _ HIZ.out); rintro e w7 ⟨rfl, b7⟩
      rw [HTZ.out, HJ.out]
      have B4 := hidI (bthen B4.out b7); clear b7
      go_wp2_with fail
      go_ret
      exact ⟨rfl, B4.out⟩
    · rw [if_neg (by omega)] at hjs
      have HJ := hidI hjs; clear hjs
      go_wp2_with fail
      go_fit (impl_CodeTruth xs _ _ HX4.out); rintro e w5 ⟨rfl, b5⟩
      have HY4 := hidI (HY4.out.below b5); have HIZ := hidI (HIZ.out.below b5); have B4 := hidI (bthen B4.out b5); clear b5
      rw [HTX.out]
      go_wp2_with fail
      go_fit (impl_CodeTruth ys _ _ HY4.out); rintro e w6 ⟨rfl, b6⟩
      have HIZ := hidI (HIZ.out.below b6); have B4 := hidI (bthen B4.out b6); clear b6
      rw [HTY.out]
      go_wp2_with fail
      go_fit (HBO.out _); rintro e w' ⟨rfl, rfl⟩
      go_wp2_with fail
      go_fit (impl_CodeTruth z _ _ HIZ.out); rintro e w7 ⟨rfl, b7⟩
      rw [HTZ.out, HJ.out]
      have B4 := hidI (bthen B4.out b7); clear b7
      go_wp2_with fail
      go_ret
      exact ⟨rfl, B4.out⟩

set_option maxRecDepth 100000 in
theorem FnCodeJoin_lifted (os : Os) (started : os.Started) (H : Type) (enc : TypeId × Value → H) :
    ReturnsInHanded {} Try.checked os 8 .any (Rows.fnCodeJoinSpec.pre6 enc Try.prog Try.f8 Rows.fnCodeJoinRow.domain false) (Rows.fnCodeJoinSpec.post enc Try.prog Try.f8 false true false false) := by
  refine returnsInHanded_of_change (C := Try.checked) own started (by kernel_rfl) Try.func8
    (ChangeSpec.witness6 (enc := enc) (C := Try.checked) false ⟨#[], #[.slice none 0 0], []⟩ 8 (by kernel_rfl) (by kernel_rfl) (by kernel_rfl) (by kernel_rfl)) ?_
  intro W base args ds gs before hval0 hW hcnd _
  have hval : ∀ (j : Nat) t v, Try.f8.params[j]? = some t → args[j]? = some v → Value.okWide Try.prog W .any base t v := hval0
  have hW' := hW
  obtain ⟨p, q, hA0, hV, rfl, hfz, hnd⟩ := hW
  have hA : DataW.TrodAll enc Try.prog W 0 (fun _ => true) true Try.f8.params.toList args.toList ds p := hA0
  rw [Try.params8] at hA hval
  obtain ⟨rfl, rfl⟩ := trodVars_none hV
  clear hA0 hval0
  simp only [List.append_nil] at hW'
  obtain ⟨v0, d0, rfl, rfl, h0⟩ := trodAll_one hA
  have l0 : ∀ x ∈ p, x.block < W.heap.size := fun x hx => by simpa using hW'.lt x hx
  have k0 : ∀ (W' : World), Below W.heap.size W W' → DataW.Trod enc Try.prog W' 0 (fun b => decide (b < W.heap.size)) true 22 v0 d0 p := fun W' hn => Below.trod laidOut (by kernel_rfl) (of_decide_eq_true (by kernel_rfl)) h0 hn l0
  obtain ⟨n, hn⟩ := open_BytS (hval 0 22 v0 rfl rfl) h0 l0
  refine (FnCodeJoin_walk n v0 W hn).mono fun e W' ⟨he, hb⟩ => ?_
  subst he
  exact ⟨_, rfl, _, _, _, [], _, [], hW', shut_true, trodAll_mk1 (k0 _ hb), rfl, hb.frame _, fun h => by cases h⟩

theorem FnCodeJoin_holds : Rows.FnCodeJoinSaid :=
  OpenClaim.holds_of_wide 8 Try.f8 rfl rfl rfl rfl rfl rfl rfl ⟨rfl, rfl, rfl, rfl, rfl⟩ rfl rfl rfl rfl rfl (by kernel_rfl) Try.func8 (by kernel_rfl)
    (of_decide_eq_true (by kernel_rfl)) (by unfold Func.isWrapper; first | (rw [if_pos (by decide +kernel)]; kernel_rfl) | (rw [if_neg (by decide +kernel)]; exact ⟨rfl, rfl⟩))
    (fun os started H enc _ => FnCodeJoin_lifted os started H enc)
end Go.Proofs.Ytobpikjegfiklaa
