/- FnLeavingOrder: for every input the law returns true, and its argument reads as before. -/
import Derived.Test.YtmmggbcmailbiaaGDX
import Derived.Test.YtmmggbcmailbiaaGC
import Derived.Deep.RegionHeld3
import Derived.Outline
namespace Go.Proofs.Ytmmggbcmailbiaa
open Go.ChangeShapes Go.WideShapes Go.ChangeAt Go.RowKit Grp

theorem leave_law (places x : Int) (pss : List (List Int)) : leavOf places pss x = -1 ∨ ∃ s o : Nat, leavOf places pss x = (s : Nat) ∧ 1 ≤ s ∧ s ≤ 120 ∧ orderOf places pss = (o : Nat) ∧ o ≤ 120 ∧ s ∣ o ∧ 1 ≤ (orbOf places pss x).length ∧ (orbOf places pss x).length ≤ 5 ∧ ∀ y ∈ orbOf places pss x, y < 5 ∧ leavOf places pss ((y : Nat) : Int) = (s : Nat) := by
  rcases leaving_cases (places := places) (x := x) (pss := pss) with h | ⟨n, k, qs, rfl, rfl, h1, h5, rfl, h3, hok, hk⟩
  · exact .inl (leavOf_no h)
  · have hmul := stab_mul h5 hok hk
    have hlen : 1 ≤ (groupL n qs).length := List.length_pos_of_mem (grp_groupL h5 hok).one
    have ho : size n qs = (groupL n qs).length := size_eq h5 hok
    have hs1 : 1 ≤ (stab (groupL n qs) k).length := by
      rcases Nat.eq_zero_or_pos (stab (groupL n qs) k).length with e | e
      · rw [e, Nat.mul_zero] at hmul; omega
      · exact e
    have hdv : (stab (groupL n qs) k).length ∣ size n qs := ⟨_, by rw [ho, ← hmul, Nat.mul_comm]⟩
    have hsz := size_le h1 h5 hok
    have hle := Nat.le_of_dvd (by omega) hdv
    rw [leavOf_valid h1 h5 h3 hok hk, orderOf_valid h1 h5 h3 hok, orbOf_valid h1 h5 h3 hok hk]
    refine .inr ⟨_, _, rfl, hs1, by omega, rfl, hsz, hdv, List.length_pos_of_mem ((orbAsc_mem h5 hok hk k).2 (orb_refl k)), Nat.le_trans (orbAsc_le n qs k) h5, fun y hy => ?_⟩
    have hyo := (orbAsc_mem h5 hok hk y).1 hy
    have hyn := orb_lt h5 hok hk hyo
    exact ⟨by omega, by rw [leavOf_valid h1 h5 h3 hok hyn, stab_same h5 hok hk hyo]⟩

theorem upW_at {l : List Nat} {k y : Nat} (h : l[k]? = some y) : (upW l).getD k 0 = (y : Int) := by
  unfold upW
  rw [List.getD_eq_getElem?_getD, List.getElem?_map, h]; rfl

theorem tmod_dvd {a b : Nat} (h : b ∣ a) : ((a : Int).tmod (b : Int)) = 0 := by
  rw [Int.tmod_eq_emod_of_nonneg (by omega)]
  exact Int.emod_eq_zero_of_dvd (Int.natCast_dvd_natCast.2 h)

set_option maxRecDepth 100000 in
set_option maxHeartbeats 4000000 in
theorem FnLeavingOrder_walk (n : Nat) (v : Value) (w : World) (h : BytS w w.heap.size v n) :
    Calls Try.prog 12 #[v] w fun e w' => e = .returned (.bool true) ∧ Below w.heap.size w w' := by
  obtain ⟨bao, bcap, hv⟩ : ∃ ao cap, v = .slice ao n cap := by obtain ⟨ao, cap, h1, _⟩ := h; exact ⟨ao, cap, h1⟩
  subst hv
  have HV := hidI h; clear h
  by_cases hbig : 1048576 < n
  · go_enter Try.func12, Try.ntmps12
    go_wp2_with fail
    go_ret
    exact ⟨rfl, Below.refl _ _⟩
  have hbig2 : (n : Int) ≤ 1048576 := by omega
  go_enter Try.func12, Try.ntmps12
  go_wp2_with fail
  go_fit (spec_DrawLeavingOrder n _ w HV.out); rintro e w1 ⟨q, x, g, c, us, pss, rfl, hq0, hq5, hx0, hx5, hpl, hls, hr, b1⟩
  have HR := hidI hr; have B1 := hidI b1; have HLS := hidI hls
  have HF := hidI (leave_law q x pss)
  obtain ⟨o, ho⟩ : ∃ o, o = leavOf q pss x := ⟨_, rfl⟩
  have HO := hidI ho
  clear hr b1 hls ho
  go_wp2_with fail
  go_fit (impl_LeavingOrderA q x pss _ _ HR.out.reads); rintro e w2 ⟨rfl, b2⟩
  rw [← HO.out]
  have B2 := hidI (bthen B1.out b2); have R2 := hidI (HR.out.below b2); clear b2
  go_wp2_with fail
  go_fit (spec_LeavingOrderA q x pss _ _ R2.out.reads HLS.out); rintro e w3 ⟨rfl, b3⟩
  rw [← HO.out]
  have B3 := hidI (bthen B2.out b3); have R3 := hidI (R2.out.below b3); clear b3 HR R2 B1 B2
  have hoo : (o != o) = false := by simp
  rcases HF.out with hn | ⟨s, t, h1, h2, h3, h4, h5, h6, h7, h8, h9⟩
  · have hon : o = -1 := HO.out.trans hn
    subst hon
    clear hn
    go_wp2_with fail
    go_fit (laws_alive _); rintro e w4 ⟨rfl, b4⟩
    have B4 := hidI (bthen B3.out b4); clear b4
    go_wp2_with fail
    go_ret
    exact ⟨rfl, B4.out⟩
  have hon : o = (s : Int) := HO.out.trans h1
  subst hon
  have H4 := hidI h4; have H9 := hidI h9
  have hT : (t : Int).tmod (s : Int) = 0 := tmod_dvd h6
  clear h1 h4 h6 h9 HO HF
  go_wp2_with fail
  go_fit (impl_OrbitOfA q x pss _ _ R3.out.reads); rintro e w4 ⟨v4, rfl, o4, b4⟩
  obtain ⟨L, hL⟩ : ∃ L, L = orbOf q pss x := ⟨_, rfl⟩
  rw [← hL] at o4 h7 h8 H9
  have I4 := hidI (IntS.ofOwn o4 (upW_I64 (fun y hy => by have := (H9.out y hy).1; omega))).2
  have B4 := hidI (bthen B3.out b4); have R4 := hidI (R3.out.below b4)
  obtain ⟨bz, oz, cz, hv4, hc1, hc2, hbz, hcz⟩ := I4.out.addr (by rw [upW_len]; exact h7)
  subst hv4
  unfold maxLen at hc2
  have HC := hidI (show ∀ (k y : Nat), L[k]? = some y → w4.cell? ⟨bz, oz + k, none⟩ = some (.int .i64 (y : Int)) from fun k y hy => by
    rw [hcz k (by rw [upW_len]; exact (List.getElem?_eq_some_iff.1 hy).1), upW_at hy])
  rw [upW_len]
  clear hL o4 b4 hcz I4 hc1 hc2 R3 B3
  go_wp2_with fail
  go_loopw [8] (fun vk wr => ∃ k : Nat, vk = .int .i64 (k : Int) ∧ k ≤ L.length ∧ Hid (Below w4.heap.size w4 wr)) (fun vk _ => L.length - (intOf vk).toNat)
  case atStart => exact ⟨0, rfl, by omega, hidI (Below.refl _ _)⟩
  case round =>
    obtain ⟨k, rfl, hk, HB⟩ := hrel
    by_cases hlt : k < L.length
    · have hkI : (k : Int) < (L.length : Int) := by omega
      obtain ⟨y, hy⟩ : ∃ y, L[k]? = some y := ⟨_, List.getElem?_eq_getElem hlt⟩
      have HY := hidI (H9.out y (List.mem_of_getElem? hy)).2
      have ecy := (HB.out.cell (p := ⟨bz, oz + k, none⟩) hbz).trans (HC.out k y hy)
      clear hy
      go_wp2_with fail
      go_fit (impl_LeavingOrderA q (y : Int) pss _ wr (R4.out.below HB.out).reads); rintro e w5 ⟨rfl, b5⟩
      rw [HY.out]
      have HB5 := hidI (bthen HB.out b5); clear b5
      have hss : ((s : Int) != (s : Int)) = false := by simp
      go_wp2_with fail
      go_roundw
      case rel => exact ⟨k + 1, by go_num, by omega, HB5⟩
      case measure => simp [intOf]; omega
    · have hkI : ¬ (k : Int) < (L.length : Int) := by omega
      go_wp2_with fail
      go_fit (impl_GroupOrderA q pss _ wr (R4.out.below HB.out).reads); rintro e w5 ⟨rfl, b5⟩
      rw [H4.out]
      have HB5 := hidI (bthen B4.out (bthen HB.out b5)); clear b5
      go_wp2_with fail
      go_ret
      exact ⟨rfl, HB5.out⟩

set_option maxRecDepth 100000 in
theorem FnLeavingOrder_lifted (os : Os) (started : os.Started) (H : Type) (enc : TypeId × Value → H) :
    ReturnsInHanded {} Try.checked os 12 .any (Rows.fnLeavingOrderSpec.pre6 enc Try.prog Try.f12 Rows.fnLeavingOrderRow.domain false) (Rows.fnLeavingOrderSpec.post enc Try.prog Try.f12 false true false false) := by
  refine returnsInHanded_of_change (C := Try.checked) own started (by kernel_rfl) Try.func12
    (ChangeSpec.witness6 (enc := enc) (C := Try.checked) false ⟨#[], #[.slice none 0 0], []⟩ 8 (by kernel_rfl) (by kernel_rfl) (by kernel_rfl) (by kernel_rfl)) ?_
  intro W base args ds gs before hval0 hW hcnd _
  have hval : ∀ (j : Nat) t v, Try.f12.params[j]? = some t → args[j]? = some v → Value.okWide Try.prog W .any base t v := hval0
  have hW' := hW
  obtain ⟨p, q, hA0, hV, rfl, hfz, hnd⟩ := hW
  have hA : DataW.TrodAll enc Try.prog W 0 (fun _ => true) true Try.f12.params.toList args.toList ds p := hA0
  rw [Try.params12] at hA hval
  obtain ⟨rfl, rfl⟩ := trodVars_none hV
  clear hA0 hval0
  simp only [List.append_nil] at hW'
  obtain ⟨v0, d0, rfl, rfl, h0⟩ := trodAll_one hA
  have l0 : ∀ x ∈ p, x.block < W.heap.size := fun x hx => by simpa using hW'.lt x hx
  have k0 : ∀ (W' : World), Below W.heap.size W W' → DataW.Trod enc Try.prog W' 0 (fun b => decide (b < W.heap.size)) true 22 v0 d0 p := fun W' hn => Below.trod laidOut (by kernel_rfl) (of_decide_eq_true (by kernel_rfl)) h0 hn l0
  obtain ⟨n, hn⟩ := open_BytS (hval 0 22 v0 rfl rfl) h0 l0
  refine (FnLeavingOrder_walk n v0 W hn).mono fun e W' ⟨he, hb⟩ => ?_
  subst he
  exact ⟨_, rfl, _, _, _, [], _, [], hW', shut_true, trodAll_mk1 (k0 _ hb), rfl, hb.frame _, fun h => by cases h⟩

theorem FnLeavingOrder_holds : Rows.FnLeavingOrderSaid :=
  OpenClaim.holds_of_wide 12 Try.f12 rfl rfl rfl rfl rfl rfl rfl ⟨rfl, rfl, rfl, rfl, rfl⟩ rfl rfl rfl rfl rfl (by kernel_rfl) Try.func12 (by kernel_rfl)
    (of_decide_eq_true (by kernel_rfl)) (by unfold Func.isWrapper; first | (rw [if_pos (by decide +kernel)]; kernel_rfl) | (rw [if_neg (by decide +kernel)]; exact ⟨rfl, rfl⟩))
    (fun os started H enc _ => FnLeavingOrder_lifted os started H enc)
end Go.Proofs.Ytmmggbcmailbiaa
