/- FnGroupOrder: for every input the law returns true, and its argument reads as before. -/
import Derived.Test.YtmmggbcmailbiaaGDW
import Derived.Test.YtmmggbcmailbiaaGXA
import Derived.Deep.RegionHeld3
import Derived.Outline
namespace Go.Proofs.Ytmmggbcmailbiaa
open Go.ChangeShapes Go.WideShapes Go.ChangeAt Go.RowKit Grp

theorem fact_le {n : Nat} (h5 : n ≤ 5) : fact n ≤ 120 := by
  have : n = 0 ∨ n = 1 ∨ n = 2 ∨ n = 3 ∨ n = 4 ∨ n = 5 := by omega
  rcases this with rfl | rfl | rfl | rfl | rfl | rfl <;> decide

theorem tmod_zero {a b : Nat} (h : b ∣ a) : ((a : Int).tmod (b : Int)) = 0 := by
  rw [Int.tmod_eq_emod_of_nonneg (by omega)]
  exact Int.emod_eq_zero_of_dvd (Int.natCast_dvd_natCast.2 h)

theorem size_pos {n : Nat} {ms : List Pm} (h5 : n ≤ 5) (hm : OkM n ms) : 1 ≤ size n ms := by
  rw [size_eq h5 hm]; exact List.length_pos_of_mem ((grp_groupL h5 hm).one)

theorem size_sub {n : Nat} {ms ks : List Pm} (h5 : n ≤ 5) (hm : OkM n ms) (hk : OkM n ks) (hs : ∀ m ∈ ms, m ∈ ks) : size n ms ∣ size n ks := by
  rw [size_eq h5 hm, size_eq h5 hk]
  exact lagrange (grp_groupL h5 hm) (grp_groupL h5 hk) (fun g hg => (groupL_mem h5 hk g).2 (Gen.mono hk (fun m hm' => Gen.gen hk (hs m hm')) ((groupL_mem h5 hm g).1 hg)))

set_option maxRecDepth 100000 in
set_option maxHeartbeats 4000000 in
theorem FnGroupOrder_walk (n : Nat) (v : Value) (w : World) (h : BytS w w.heap.size v n) :
    Calls Try.prog 15 #[v] w fun e w' => e = .returned (.bool true) ∧ Below w.heap.size w w' := by
  obtain ⟨bao, bcap, hv⟩ : ∃ ao cap, v = .slice ao n cap := by obtain ⟨ao, cap, h1, _⟩ := h; exact ⟨ao, cap, h1⟩
  subst hv
  have HV := hidI h; clear h
  by_cases hbig : 1048576 < n
  · go_enter Try.func15, Try.ntmps15
    go_wp2_with fail
    go_ret
    exact ⟨rfl, Below.refl _ _⟩
  have hbig2 : (n : Int) ≤ 1048576 := by omega
  go_enter Try.func15, Try.ntmps15
  go_wp2_with fail
  refine (spec_DrawGroupOrder n _ w HV.out).mono ?_; rintro e w1 ⟨q, g, c, us, pss, rfl, hq0, hq5, hpl, hls, hr, b1⟩
  have HR := hidI hr; have B1 := hidI b1; have HLS := hidI hls
  have hgl := hr.lt rfl
  obtain ⟨-, -, hgc, hcm⟩ := hgl
  unfold maxLen at hcm
  obtain ⟨o, ho⟩ : ∃ o, o = orderOf q pss := ⟨_, rfl⟩
  have HO := hidI ho
  clear hr b1 hls ho
  go_wp2_with fail
  refine (impl_GroupOrderA q pss _ _ HR.out.reads).mono ?_; rintro e w2 ⟨rfl, b2⟩
  rw [← HO.out]
  have B2 := hidI (bthen B1.out b2); have R2 := hidI (HR.out.below b2); clear b2
  go_wp2_with fail
  refine (spec_GroupOrderA q pss _ _ R2.out.reads HLS.out).mono ?_; rintro e w3 ⟨rfl, b3⟩
  rw [← HO.out]
  have B3 := hidI (bthen B2.out b3); have R3 := hidI (R2.out.below b3); clear b3
  have hoo : (o != o) = false := by simp
  cases hmv : mvalid q pss
  · have HMV := hidI hmv
    have hon : o = -1 := HO.out.trans (orderOf_no hmv)
    subst hon
    clear hmv
    go_wp2_with fail
    refine (impl_MovesValid q pss _ _ R3.out.reads).mono ?_; rintro e w' ⟨rfl, rfl⟩; rw [HMV.out]
    go_wp2_with fail
    refine (laws_alive _).mono ?_; rintro e w4 ⟨rfl, b4⟩
    have B4 := hidI (bthen B3.out b4); clear b4
    go_wp2_with fail
    go_ret
    exact ⟨rfl, B4.out⟩
  obtain ⟨N, qs, hqN, h1, h5, hps, h3, hok⟩ := (mvalid_iff _ _).1 hmv
  subst hps
  subst hqN
  have HOK := hidI hok
  have hq3 : (qs.map up).length = qs.length := List.length_map _
  obtain ⟨s, hs⟩ : ∃ s, s = size N qs := ⟨_, rfl⟩
  have hos : o = (s : Int) := HO.out.trans (by rw [orderOf_valid h1 h5 h3 hok, hs])
  have hs1 : 1 ≤ s := hs ▸ size_pos h5 hok
  have hs2 : s ≤ 120 := hs ▸ size_le h1 h5 hok
  have hT : ((fact N : Nat) : Int).tmod (s : Int) = 0 := tmod_zero (by rw [hs, size_eq h5 hok]; exact group_fact h1 h5 hok)
  have hfl := fact_le h5
  obtain ⟨F, hF⟩ : ∃ F, F = fact N := ⟨_, rfl⟩
  rw [← hF] at hT hfl
  have HFF := hidI hF
  have HS := hidI hs
  have HGW := hidI (show (permsOf (groupW N qs)).length = s by rw [permsOf_keys, List.length_map, List.length_map, hs, size_eq h5 hok]; unfold groupL; rw [List.length_map])
  subst hos
  clear hmv hok hs hF HO
  go_wp2_with fail
  go_loopw [6, 7] (fun v6 vk wr => ∃ (j f : Nat), v6 = .int .i64 (f : Nat) ∧ vk = .int .i64 ((j : Int) + 1) ∧ 1 ≤ j ∧ j ≤ N ∧ f ≤ 120 ∧ Hid (f = fact j) ∧ Hid (w3 = wr)) (fun _ vk _ => N + 1 - (intOf vk).toNat)
  case atStart => exact ⟨1, 1, rfl, rfl, by omega, by omega, by omega, hidI rfl, hidI rfl⟩
  case round =>
    obtain ⟨j, f, rfl, rfl, hj1, hjN, hf, HJ, HW⟩ := hrel
    obtain rfl := HW.out
    by_cases hlt : j < N
    · have hkI : (j : Int) + 1 ≤ (N : Int) := by omega
      have HN := hidI (show f * (j + 1) = fact (j + 1) by rw [HJ.out, Nat.mul_comm]; rfl)
      have hm1 : f * (j + 1) ≤ 120 := by rw [HN.out]; exact fact_le (by omega)
      have hm2 : (f : Int) * ((j : Int) + 1) = ((f * (j + 1) : Nat) : Int) := by simp
      obtain ⟨y, hy⟩ : ∃ y, y = f * (j + 1) := ⟨_, rfl⟩
      rw [← hy] at hm1 hm2 HN
      clear hy
      go_wp2_with fail
      go_roundw
      case rel => exact ⟨j + 1, y, rfl, by go_num, by omega, by omega, hm1, HN, (by first | exact hidI rfl | exact hidI trivial)⟩
      case measure => simp [intOf]; omega
    have hjn : j = N := by omega
    subst hjn
    have hff : f = F := HJ.out.trans HFF.out.symm
    subst hff
    have hkI : ¬ ((j : Int) + 1 ≤ (j : Int)) := by omega
    clear hlt hf HJ hjN
    rcases qs with _ | ⟨m, qt⟩
    · have hT2 : (s : Int).tmod (s : Int) = 0 := Int.tmod_self
      go_wp2_with fail
      refine (impl_GroupAll j [] _ _ R3.out.reads HOK.out h1 h5 h3).mono ?_; rintro e w5 ⟨v5, us5, rfl, r5, b5⟩
      obtain ⟨ao5, c5, hv5, hc5, hm5, _⟩ := id r5.reads
      rw [HGW.out] at hv5 hc5
      unfold maxLen at hm5
      subst hv5
      have B5 := hidI (bthen B3.out b5); clear r5 b5
      go_wp2_with fail
      go_ret
      exact ⟨rfl, B5.out⟩
    have hqt : ((m :: qt).map up).length = qt.length + 1 := by simp
    have hqt' : (m :: qt).length = qt.length + 1 := by simp
    have hokt : OkM j qt := fun p hp => HOK.out p (List.mem_cons_of_mem _ hp)
    have hqt3 : qt.length ≤ 3 := by omega
    obtain ⟨l, hl⟩ : ∃ l, l = size j qt := ⟨_, rfl⟩
    have HL := hidI (show orderOf (j : Int) (qt.map up) = (l : Nat) by rw [orderOf_valid h1 h5 hqt3 hokt, hl])
    have hl1 : 1 ≤ l := hl ▸ size_pos h5 hokt
    have hl2 : l ≤ 120 := hl ▸ size_le h1 h5 hokt
    have hT2 : (s : Int).tmod (l : Int) = 0 := tmod_zero (by rw [hl, HS.out]; exact size_sub h5 hokt HOK.out (fun p hp => List.mem_cons_of_mem _ hp))
    have R3' := hidI (show RowsOwn w3 _ (.slice (some ⟨g, 0, none⟩) ((m :: qt).map up).length c) us (up m :: qt.map up) from R3.out)
    rw [hqt] at R3' hgc
    have HT := hidI R3'.out.tail
    have R3q := R3.out
    rw [hqt] at R3q
    have HRq := hidI R3q; clear R3q
    clear hl hokt
    rw [hqt']
    by_cases hc1 : c = 1
    · subst hc1
      obtain rfl : qt = [] := List.eq_nil_of_length_eq_zero (by omega)
      have HR1 := hidI (show RowsOwn w3 _ (.slice (some ⟨g, 0, none⟩) 1 1) us (up m :: [].map up) from HRq.out)
      clear HRq
      go_wp2_with fail
      refine (impl_GroupOrderA (j : Int) ([].map up) _ _ (HT.out.1 (by first | rfl | trivial))).mono ?_; rintro e w4 ⟨rfl, b4⟩
      rw [HL.out]
      have B4 := hidI (bthen B3.out b4); have R4 := hidI (HR1.out.below b4); clear b4
      go_wp2_with fail
      go_fit (impl_GroupAll j [m] _ _ R4.out.reads HOK.out h1 h5 h3); rintro e w5 ⟨v5, us5, rfl, r5, b5⟩
      obtain ⟨ao5, c5, hv5, hc5, hm5, _⟩ := id r5.reads
      rw [HGW.out] at hv5 hc5
      unfold maxLen at hm5
      subst hv5
      have B5 := hidI (bthen B4.out b5); clear r5 b5
      go_wp2_with fail
      go_ret
      exact ⟨rfl, B5.out⟩
    · go_wp2_with fail
      refine (impl_GroupOrderA (j : Int) (qt.map up) _ _ (by have := HT.out.2 hc1; simpa using this)).mono ?_; rintro e w4 ⟨rfl, b4⟩
      rw [HL.out]
      have B4 := hidI (bthen B3.out b4); have R4 := hidI (HRq.out.below b4); clear b4
      go_wp2_with fail
      go_fit (impl_GroupAll j (m :: qt) _ _ R4.out.reads HOK.out h1 h5 h3); rintro e w5 ⟨v5, us5, rfl, r5, b5⟩
      obtain ⟨ao5, c5, hv5, hc5, hm5, _⟩ := id r5.reads
      rw [HGW.out] at hv5 hc5
      unfold maxLen at hm5
      subst hv5
      have B5 := hidI (bthen B4.out b5); clear r5 b5
      go_wp2_with fail
      go_ret
      exact ⟨rfl, B5.out⟩

set_option maxRecDepth 100000 in
theorem FnGroupOrder_lifted (os : Os) (started : os.Started) (H : Type) (enc : TypeId × Value → H) :
    ReturnsInHanded {} Try.checked os 15 .any (Rows.fnGroupOrderSpec.pre6 enc Try.prog Try.f15 Rows.fnGroupOrderRow.domain false) (Rows.fnGroupOrderSpec.post enc Try.prog Try.f15 false true false false) := by
  refine returnsInHanded_of_change (C := Try.checked) own started (by kernel_rfl) Try.func15
    (ChangeSpec.witness6 (enc := enc) (C := Try.checked) false ⟨#[], #[.slice none 0 0], []⟩ 8 (by kernel_rfl) (by kernel_rfl) (by kernel_rfl) (by kernel_rfl)) ?_
  intro W base args ds gs before hval0 hW hcnd _
  have hval : ∀ (j : Nat) t v, Try.f15.params[j]? = some t → args[j]? = some v → Value.okWide Try.prog W .any base t v := hval0
  have hW' := hW
  obtain ⟨p, q, hA0, hV, rfl, hfz, hnd⟩ := hW
  have hA : DataW.TrodAll enc Try.prog W 0 (fun _ => true) true Try.f15.params.toList args.toList ds p := hA0
  rw [Try.params15] at hA hval
  obtain ⟨rfl, rfl⟩ := trodVars_none hV
  clear hA0 hval0
  simp only [List.append_nil] at hW'
  obtain ⟨v0, d0, rfl, rfl, h0⟩ := trodAll_one hA
  have l0 : ∀ x ∈ p, x.block < W.heap.size := fun x hx => by simpa using hW'.lt x hx
  have k0 : ∀ (W' : World), Below W.heap.size W W' → DataW.Trod enc Try.prog W' 0 (fun b => decide (b < W.heap.size)) true 22 v0 d0 p := fun W' hn => Below.trod laidOut (by kernel_rfl) (of_decide_eq_true (by kernel_rfl)) h0 hn l0
  obtain ⟨n, hn⟩ := open_BytS (hval 0 22 v0 rfl rfl) h0 l0
  refine (FnGroupOrder_walk n v0 W hn).mono fun e W' ⟨he, hb⟩ => ?_
  subst he
  exact ⟨_, rfl, _, _, _, [], _, [], hW', shut_true, trodAll_mk1 (k0 _ hb), rfl, hb.frame _, fun h => by cases h⟩

theorem FnGroupOrder_holds : Rows.FnGroupOrderSaid :=
  OpenClaim.holds_of_wide 15 Try.f15 rfl rfl rfl rfl rfl rfl rfl ⟨rfl, rfl, rfl, rfl, rfl⟩ rfl rfl rfl rfl rfl (by kernel_rfl) Try.func15 (by kernel_rfl)
    (of_decide_eq_true (by kernel_rfl)) (by unfold Func.isWrapper; first | (rw [if_pos (by decide +kernel)]; kernel_rfl) | (rw [if_neg (by decide +kernel)]; exact ⟨rfl, rfl⟩))
    (fun os started H enc _ => FnGroupOrder_lifted os started H enc)
end Go.Proofs.Ytmmggbcmailbiaa
