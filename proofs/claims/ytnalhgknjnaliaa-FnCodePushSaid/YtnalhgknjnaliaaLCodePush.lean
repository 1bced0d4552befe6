/- FnCodePush: for every input the law returns true, and its argument reads as before. -/
import Derived.Test.YtnalhgknjnaliaaOpenB
import Derived.Test.YtnalhgknjnaliaaDrawC
import Derived.Test.YtnalhgknjnaliaaAlive
import Derived.Test.YtnalhgknjnaliaaRunP
import Derived.Test.YtnalhgknjnaliaaSame
import Derived.Test.YtnalhgknjnaliaaLawH
import Derived.Test.YtnalhgknjnaliaaTreeC
import Derived.Deep.DeepFit
import Derived.Outline
namespace Go.Proofs.Ytnalhgknjnaliaa
open Go.ChangeShapes Go.WideShapes Go.ChangeAt Go.RowKit

theorem same_ev' {a b : Cond} (ha : a.Ok) (hb : b.Ok) (la : a.steps.length ≤ 40) (lb : b.steps.length ≤ 40) (h : ∀ S, ev S a = ev S b) : sameCode a.steps b.steps = true := by
  unfold sameCode codeTruth
  rw [valid_cond ha la, valid_cond hb lb, truthTo_ev ha hb h 32]
  simp

set_option maxHeartbeats 1000000 in
theorem spec_DrawCodePush (n : Nat) (v : Value) (w : World) (h : BytS w w.heap.size v n) :
    Calls Try.prog 16 #[v] w fun e w' => ∃ vb zs', e = .returned vb ∧ zs'.length ≤ 61 ∧ IntS w' vb zs' ∧ Below w.heap.size w w' := by
  go_enter Try.func16, Try.ntmps16
  go_wp2_with fail
  go_fit (spec_l20Open n v w h); rintro e w1 ⟨rfl, hr, b1⟩
  have HB := hidI b1; have HR := hidI hr; have hlt := hr.lt; clear b1 hr
  go_wp2_with fail
  go_fit (spec_l20Code w.heap.size 0 5 9 w1 HR.out (by omega) (by omega) (by omega) (by omega) (by omega)); rintro e w2 ⟨g, m, cap, rfl, hm, ho, hr, hg⟩
  have HO := hidI ho; have HR := hidI hr; have HG := hidI hg; have hlt3 := Nat.lt_of_lt_of_le hlt hg.size; clear ho hr hg
  have HB2 := hidI (HB.out.grown HG.out HB.out.size (fun k hk => by cases hk; exact Nat.le_refl _))
  obtain ⟨zs, hz, hi⟩ := HO.out.ints
  have HZ := hidI hz; have HI := hidI hi
  clear hz hi
  rcases Nat.lt_or_ge m 40 with h40 | h40
  rotate_left
  · have h40' : (40 : Int) ≤ (m : Int) := by omega
    go_wp2_with fail
    go_ret
    exact ⟨_, rfl, zs, by have := HZ.out; omega, HI.out, HB2.out⟩
  have h40' : (m : Int) < 40 := by omega
  go_wp2_with fail
  go_fit (spec_pickI w.heap.size 200 2 w2 HR.out (by omega) (by omega) (by omega)); rintro e w3 ⟨k, rfl, hk, hr, hg⟩
  have HO := hidI (HO.out.grown hg hlt); have HB3 := hidI (HB2.out.grown hg HB2.out.size (fun k hk => by cases hk; exact Nat.le_refl _)); clear hr hg
  obtain ⟨zs1, hz1, hz2, ho1⟩ := HO.out
  have O3 := hidI ho1; have HZ1 := hidI hz1; have HZ2 := hidI hz2
  have I3 := hidI (IntS.ofOwn ho1 hz2).2
  have hlt5 := hlt
  clear ho1 hz1 hz2 HO HI
  obtain rfl | rfl : k = 0 ∨ k = 1 := by omega
  rotate_left
  · clear hk
    go_wp2_with fail
    go_ret
    exact ⟨_, zs1, rfl, by have := HZ1.out; omega, I3.out, HB3.out⟩
  clear hk
  go_wp2_with fail
  go_fit (spec_CodeValid zs1 _ w3 I3.out (by have := HZ1.out; omega)); rintro e w' ⟨rfl, rfl⟩
  generalize codeValid zs1 = cv
  cases cv
  · go_wp2_with fail
    go_ret
    exact ⟨_, zs1, rfl, by have := HZ1.out; omega, I3.out, HB3.out⟩
  have hs3 : w1.heap.size ≤ w3.heap.size := by have := O3.out.lt _ rfl; omega
  go_wp2_with (at_builtin; refine wpList_push _ rfl _ _ 24 rfl w1.heap.size 3 (.int .i64 0) 8 Try.underlying24 infoInt rfl (.slice (some ⟨g, 0, none⟩) m cap) m (zs1.map (Value.int .i64)) _ rfl rfl O3.out rfl (by omega) (by decide) hs3 ?_)
  intro g4 c4 w4 hg4 ho4 hb4 _
  have O4 := hidI ho4
  have HB4 := hidI (HB3.out.trans ((hb4 _ ((Below.refl _ _).mono hs3)).mono (by omega)))
  clear ho4 hb4
  go_wp2_with fail
  go_ret
  have i4 : w4.ownsRow w1.heap.size 3 1 (.slice (some ⟨g4, 0, none⟩) (m + 1) c4) (m + 1) ((zs1 ++ [7]).map (Value.int .i64)) := by simpa using O4.out
  have i5 := (IntS.ofOwn i4 (by
    intro z hz
    rcases List.mem_append.1 hz with hz | hz
    · exact HZ2.out z hz
    · simp at hz; subst hz; unfold I64; omega)).2
  exact ⟨_, zs1 ++ [7], rfl, by have := HZ1.out; simp; omega, i5, HB4.out⟩

set_option maxRecDepth 100000 in
set_option maxHeartbeats 2000000 in
theorem FnCodePush_walk (n : Nat) (v : Value) (w : World) (h : BytS w w.heap.size v n) :
    Calls Try.prog 4 #[v] w fun e w' => e = .returned (.bool true) ∧ Below w.heap.size w w' := by
  obtain ⟨bao, bcap, hv⟩ : ∃ ao cap, v = .slice ao n cap := by obtain ⟨ao, cap, h1, _⟩ := h; exact ⟨ao, cap, h1⟩
  subst hv
  have HV := hidI h; clear h
  by_cases hbig : 1048576 < n
  · go_enter Try.func4, Try.ntmps4
    go_wp2_with fail
    go_ret
    exact ⟨rfl, Below.refl _ _⟩
  have hbig2 : (n : Int) ≤ 1048576 := by omega
  go_enter Try.func4, Try.ntmps4
  go_wp2_with fail
  go_fit (spec_DrawCodePush n _ w HV.out); rintro e w1 ⟨va, xs, rfl, hxl, hx, b1⟩
  have HX := hidI hx; have B1 := hidI b1; have HXL := hidI hxl
  obtain ⟨aa, ca, hva⟩ : ∃ a c, va = .slice a xs.length c := by obtain ⟨_, a, c, h1, _⟩ := hx; exact ⟨a, c, h1⟩
  subst hva
  clear hx b1 hxl
  have HI := hidI (codePush_I64 xs)
  generalize hob : (codePush xs).isSome = ob
  have HOB := hidI hob; clear hob
  go_wp2_with fail
  go_fit (impl_CodePush xs _ w1 HX.out); rintro e w2 ⟨vg, rfl, o2, b2⟩
  rw [HOB.out]
  have HX := hidI (HX.out.below b2); have B1 := hidI (bthen B1.out b2); have IG := hidI (IntS.ofOwn o2 HI.out).2; clear o2 b2
  obtain ⟨ag, cg, hvg⟩ : ∃ a c, vg = .slice a ((codePush xs).getD []).length c := by obtain ⟨_, a, c, h1, _⟩ := IG.out; exact ⟨a, c, h1⟩
  subst hvg
  go_wp2_with fail
  go_fit (spec_CodePush xs _ w2 HX.out (by have := HXL.out; omega)); rintro e w3 ⟨vs, rfl, o3, b3⟩
  rw [HOB.out]
  have HX := hidI (HX.out.below b3); have B1 := hidI (bthen B1.out b3); have IS := hidI (IntS.ofOwn o3 HI.out).2; have IG := hidI (IG.out.below b3); clear o3 b3
  obtain ⟨a5, c5, hvs⟩ : ∃ a c, vs = .slice a ((codePush xs).getD []).length c := by obtain ⟨_, a, c, h1, _⟩ := IS.out; exact ⟨a, c, h1⟩
  subst hvs
  go_wp2_with fail
  go_fit (sameInts_any _ _ _ _ w3 IG.out IS.out); rintro e w4 ⟨rfl, n4, hw4⟩
  have b4 := bdraw w3 n4
  rw [← hw4] at b4
  have HX := hidI (HX.out.below b4); have B1 := hidI (bthen B1.out b4); have IG := hidI (IG.out.below b4); clear b4 hw4 IS
  simp only [decide_true]
  cases hj : codePush xs with
  | none =>
    have hob : ob = false := by rw [← HOB.out, hj]; rfl
    subst hob
    simp only [Option.getD_none, List.length_nil]
    clear hj
    go_wp2_with fail
    go_fit (laws_alive _); rintro e w9 ⟨rfl, b9⟩
    go_wp2_with fail
    go_ret
    exact ⟨rfl, bthen B1.out b9⟩
  | some q =>
    have hob : ob = true := by rw [← HOB.out, hj]; rfl
    subst hob
    rw [hj] at IG
    simp only [Option.getD_some] at IG ⊢
    have hvx : codeValid xs = true := by
      cases hv : codeValid xs with
      | true => rfl
      | false => rw [codePush_no hv] at hj; cases hj
    obtain ⟨t, hk, rfl, h40, h1, -, -⟩ := valid_tree hvx
    have e1 := codePush_tree hvx hk
    have hok := psh_Ok t false hk
    have hq40 : (psh t false).steps.length ≤ 40 := by
      rw [hj] at e1
      by_cases c : (psh t false).steps.length ≤ 40
      · exact c
      · rw [if_neg c] at e1; cases e1
    have hqe : q = (psh t false).steps := by rw [hj, if_pos hq40] at e1; exact Option.some.inj e1
    subst hqe
    have E2 := hidI (valid_cond hok hq40)
    have E3 := hidI (same_ev' hok hk hq40 h40 (fun S => by rw [psh_ev S t false hk]; simp))
    have E4 : Hid (codePush (psh t false).steps = some (psh t false).steps) := hidI (by rw [codePush_tree E2.out hok, psh_psh t false hk, if_pos hq40])
    have HI2 := hidI (steps_I64 hok)
    have HN := hidI (fun k (h : (psh t false).steps[k]? = some 7) => notsAt_get _ none k (psh_nots t false none hk) h)
    have hqn := steps_ne (psh t false)
    clear hvx hk e1 hok h1 h40 HI hj HOB
    generalize (psh t false).steps = q at *
    obtain ⟨b, off, cap, hvq, hc1, hc2, hb, hc⟩ := IG.out.addr hqn
    injection hvq with e1 _ e3
    subst e1; subst e3
    unfold maxLen at hc2
    have HC := hidI hc; clear hc
    have hql : (q.length : Int) ≤ 40 := by omega
    go_wp2_with fail
    go_loopw [8] (fun i wr => ∃ k : Nat, k ≤ q.length ∧ i = .int .i64 k ∧ w4 = wr) (fun i _ => q.length - (intOf i).toNat)
    case atStart => exact ⟨0, by omega, rfl, rfl⟩
    case round =>
      obtain ⟨k, hk, rfl, rfl⟩ := hrel
      obtain ⟨z, Hd, Hg, _⟩ := at_k q k
      by_cases hlt : k < q.length
      · have hcell : w4.cell? ⟨b, off + k, none⟩ = some (.int .i64 z) := by rw [← Hg.out hlt]; exact HC.out k hlt
        have hk1 : (k : Int) < (q.length : Int) := by omega
        by_cases hz : z = 7
        · subst hz
          have hget : q[k]? = some 7 := by rw [List.getElem?_eq_getElem hlt]; have := Hg.out hlt; simp [List.getD, hlt] at this; rw [this]
          obtain ⟨n0, n1⟩ := HN.out k hget
          have hk0 : 1 ≤ k := by
            rcases Nat.eq_zero_or_pos k with h0 | h0
            · obtain ⟨_, e, _⟩ := n0 h0; cases e
            · exact h0
          obtain ⟨y, hy, hy5⟩ := n1 hk0
          have hcell2 : w4.cell? ⟨b, off + (k - 1), none⟩ = some (.int .i64 y) := by
            rw [HC.out (k - 1) (by omega)]; simp [List.getD, hy]
          have hk2 : ((k : Int) == 0) = false := by simp only [beq_eq_false_iff_ne, ne_eq]; omega
          have hk3 : (1 : Int) ≤ (k : Int) := by omega
          have hk4 : (k : Int) - 1 < (q.length : Int) := by omega
          have hk5 : (0 : Int) ≤ (k : Int) - 1 := by omega
          clear n0 n1 hget hy
          go_wp2_with fail
          refine ⟨?rel, ?measure⟩
          case rel => exact ⟨k + 1, by omega, by go_num, trivial⟩
          case measure => simp [intOf]; omega
        · have hz7 : (z == 7) = false := by simp only [beq_eq_false_iff_ne, ne_eq]; exact hz
          clear hz
          go_wp2_with fail
          refine ⟨?rel, ?measure⟩
          case rel => exact ⟨k + 1, by omega, by go_num, trivial⟩
          case measure => simp [intOf]; omega
      · have h3 : (q.length : Int) ≤ (k : Int) := by omega
        have HI3 := HI2
        clear hlt
        go_wp2_with fail
        go_fit (impl_CodePush q _ w4 IG.out); rintro e w6 ⟨vh, rfl, o6, b6⟩
        rw [E4.out] at o6
        have IG2 := hidI (IG.out.below b6); have HX := hidI (HX.out.below b6); have B1 := hidI (bthen B1.out b6)
        have IH := hidI (IntS.ofOwn o6 HI2.out).2
        rw [show (codePush q).isSome = true by rw [E4.out]; rfl]
        clear o6 b6
        obtain ⟨ah, ch, hvh⟩ : ∃ a c, vh = .slice a q.length c := by obtain ⟨_, a, c, h1, _⟩ := IH.out; exact ⟨a, c, h1⟩
        subst hvh
        go_wp2_with fail
        go_fit (impl_CodeValid q _ w6 IG2.out); rintro e w' ⟨rfl, rfl⟩
        rw [E2.out]
        go_wp2_with fail
        go_fit (impl_SameCode q t.steps _ _ w6 IG2.out HX.out); rintro e w7 ⟨rfl, b7⟩
        rw [E3.out]
        have IG2 := hidI (IG2.out.below b7); have B1 := hidI (bthen B1.out b7); have IH := hidI (IH.out.below b7); clear b7
        go_wp2_with fail
        go_fit (sameInts_any _ _ _ _ w7 IH.out IG2.out); rintro e w8 ⟨rfl, n8, hw8⟩
        have b8 := bdraw w7 n8
        rw [← hw8] at b8; clear hw8
        simp only [decide_true]
        go_wp2_with fail
        go_ret
        exact ⟨rfl, bthen B1.out b8⟩

set_option maxRecDepth 100000 in
theorem FnCodePush_lifted (os : Os) (started : os.Started) (H : Type) (enc : TypeId × Value → H) :
    ReturnsInHanded {} Try.checked os 4 .any (Rows.fnCodePushSpec.pre6 enc Try.prog Try.f4 Rows.fnCodePushRow.domain false) (Rows.fnCodePushSpec.post enc Try.prog Try.f4 false true false false) := by
  refine returnsInHanded_of_change (C := Try.checked) own started (by kernel_rfl) Try.func4
    (ChangeSpec.witness6 (enc := enc) (C := Try.checked) false ⟨#[], #[.slice none 0 0], []⟩ 8 (by kernel_rfl) (by kernel_rfl) (by kernel_rfl) (by kernel_rfl)) ?_
  intro W base args ds gs before hval0 hW hcnd _
  have hval : ∀ (j : Nat) t v, Try.f4.params[j]? = some t → args[j]? = some v → Value.okWide Try.prog W .any base t v := hval0
  have hW' := hW
  obtain ⟨p, q, hA0, hV, rfl, hfz, hnd⟩ := hW
  have hA : DataW.TrodAll enc Try.prog W 0 (fun _ => true) true Try.f4.params.toList args.toList ds p := hA0
  rw [Try.params4] at hA hval
  obtain ⟨rfl, rfl⟩ := trodVars_none hV
  clear hA0 hval0
  simp only [List.append_nil] at hW'
  obtain ⟨v0, d0, rfl, rfl, h0⟩ := trodAll_one hA
  have l0 : ∀ x ∈ p, x.block < W.heap.size := fun x hx => by simpa using hW'.lt x hx
  have k0 : ∀ (W' : World), Below W.heap.size W W' → DataW.Trod enc Try.prog W' 0 (fun b => decide (b < W.heap.size)) true 22 v0 d0 p := fun W' hn => Below.trod laidOut (by kernel_rfl) (of_decide_eq_true (by kernel_rfl)) h0 hn l0
  obtain ⟨n, hn⟩ := open_BytS (hval 0 22 v0 rfl rfl) h0 l0
  refine (FnCodePush_walk n v0 W hn).mono fun e W' ⟨he, hb⟩ => ?_
  subst he
  exact ⟨_, rfl, _, _, _, [], _, [], hW', shut_true, trodAll_mk1 (k0 _ hb), rfl, hb.frame _, fun h => by cases h⟩

theorem FnCodePush_holds : Rows.FnCodePushSaid :=
  OpenClaim.holds_of_wide 4 Try.f4 rfl rfl rfl rfl rfl rfl rfl ⟨rfl, rfl, rfl, rfl, rfl⟩ rfl rfl rfl rfl rfl (by kernel_rfl) Try.func4 (by kernel_rfl)
    (of_decide_eq_true (by kernel_rfl)) (by unfold Func.isWrapper; first | (rw [if_pos (by decide +kernel)]; kernel_rfl) | (rw [if_neg (by decide +kernel)]; exact ⟨rfl, rfl⟩))
    (fun os started H enc _ => FnCodePush_lifted os started H enc)
end Go.Proofs.Ytnalhgknjnaliaa
