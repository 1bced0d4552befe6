/- The reference's reader of codes: parts with signs between them. (printed by genSr.py) -/
import Derived.Test.YtndbfdgflflfpaaSr
import Derived.Test.YtndbfdgflflfpaaStepG
import Derived.Deep.QuietTactic
import Derived.BigQuiet
import Derived.Outline
namespace Go.Proofs.Ytndbfdgflflfpaa
open Go.RowKit


set_option maxRecDepth 100000 in
set_option maxHeartbeats 40000000 in
theorem spec_great1 (s : ByteArray) (hs : s.size ≤ 1000) (p : Rd) (hg : Good p) (D k0 : Nat) (hD : D ≤ 191)
    (HP : ∀ k w, k0 ≤ k → k ≤ s.size → Calls Try.prog 36 #[.string s, .int .i64 (k : Int), .int .i64 2, .int .i64 (D : Int)] w (Give3 w s k (p ((bs s).drop k)))) (k : Nat) (w : World) (hk0 : k0 ≤ k) (hk : k ≤ s.size) :
    Calls Try.prog 36 #[.string s, .int .i64 (k : Int), .int .i64 1, .int .i64 (D : Int)] w (Give3 w s k (great p 124 9 ((bs s).drop k))) := by
  have HPP := hidI HP; clear HP
  have hw1 : IntKind.i64.wrap 1 = 1 := by decide
  have hw0 : IntKind.i64.wrap 0 = 0 := by decide
  go_enter Try.func36, Try.ntmps36
  go_wp2_with fail
  refine (HPP.out k w hk0 hk).mono ?_; rintro e w1 ⟨v, zs, k1, ok, rfl, o1, i1, l1, s1, b1, t1, n1⟩
  obtain ⟨a1, c1, hv1⟩ := own_slice o1
  subst hv1
  have O1 := hidI o1; have I1 := hidI i1; have B1 := hidI b1
  have T1 : Hid (ok = true → ∃ t, zs = t.steps ∧ great p 124 9 ((bs s).drop k) = many p 124 9 (((bs s).drop k1).length + 1) t ((bs s).drop k1)) := hidI (fun h => by
    obtain ⟨t, e1, e2⟩ := t1 h
    exact ⟨t, e2, by unfold great; rw [e1]⟩)
  have N1 : Hid (ok = false → great p 124 9 ((bs s).drop k) = none) := hidI (fun h => by unfold great; rw [n1 h])
  clear o1 i1 b1 t1 n1
  go_wp2_with fail
  go_loopw [11, 12, 13] (fun vv tv okv wr => ∃ (zs : List Int) (k1 : Nat) (ok : Bool) (a : Option Addr) (c : Nat), vv = .slice a zs.length c ∧ tv = .int .i64 (k1 : Int) ∧ okv = .bool ok ∧ zs.length + k ≤ k1 ∧ k1 ≤ s.size ∧ Hid (wr.ownsRow w.heap.size 3 1 (.slice a zs.length c) zs.length (zs.map (Value.int .i64))) ∧ Hid (∀ z ∈ zs, I64 z) ∧ Hid (Below w.heap.size w wr) ∧
    Hid (ok = true → ∃ t, zs = t.steps ∧ great p 124 9 ((bs s).drop k) = many p 124 9 (((bs s).drop k1).length + 1) t ((bs s).drop k1)) ∧ Hid (ok = false → great p 124 9 ((bs s).drop k) = none)) (fun _ t _ _ => s.size - (intOf t).toNat)
  case atStart => exact ⟨zs, k1, ok, a1, c1, rfl, rfl, rfl, l1, s1, O1, I1, B1, T1, N1⟩
  case round =>
    clear O1 I1 B1 T1 N1 l1 s1
    obtain ⟨zs, k1, ok, a, c, rfl, rfl, rfl, l1, s1, O1, I1, B1, T1, N1⟩ := hrel
    cases ok
    · go_wp2_with fail
      go_quiet (fail)
      go_wp2_with fail
      go_ret3
      exact ⟨_, zs, k1, false, rfl, O1.out, I1.out, l1, s1, bthen B1.out (bdraw _ _), fun h => (by cases h), fun _ => N1.out trivial⟩
    by_cases hk1 : k1 < s.size
    rotate_left
    · have hge : (s.size : Int) ≤ (k1 : Int) := by omega
      go_wp2_with fail
      go_quiet (fail)
      go_wp2_with fail
      go_ret3
      refine ⟨_, zs, k1, true, rfl, O1.out, I1.out, l1, s1, bthen B1.out (bdraw _ _), fun _ => ?_, fun h => by cases h⟩
      obtain ⟨t, e1, e2⟩ := T1.out trivial
      exact ⟨t, by rw [e2]; refine many_none _ ?_; rw [List.drop_eq_nil_of_le (by rw [bs_len]; omega)]; simp, e1⟩
    have hlt : (k1 : Int) < (s.size : Int) := by omega
    by_cases hc : s[k1].toNat = 124
    rotate_left
    · have hcb : ((s[k1].toNat : Int) == 124) = false := by simp; omega
      have HC := hidI hc; clear hc
      go_wp2_with fail
      refine wp_region_any (by kernel_rfl) ?_
      change wpAny _ _ _ _ _ _ _ (World.drew _)
      refine take_at (i := 0) (v := ?_) 36 rfl rfl (by kernel_rfl) (by kernel_rfl) (by kernel_rfl) (fun _ _ _ h => h) (Or.inl ⟨by rfl, ?_⟩) ?_
      rotate_left
      · intro w; go_simp; try with_reducible rfl
      (try simp only [Act.put, List.setIfInBounds_toArray, List.set_cons_zero, List.set_cons_succ])
      refine take_at (i := 1) (v := ?_) 37 rfl rfl (by kernel_rfl) (by kernel_rfl) (by kernel_rfl) (fun _ _ _ h => h) (Or.inl ⟨by rfl, ?_⟩) ?_
      rotate_left
      · intro w; go_simp; try with_reducible rfl
      (try simp only [Act.put, List.setIfInBounds_toArray, List.set_cons_zero, List.set_cons_succ])
      refine take_at (i := 2) (v := ?_) 38 rfl rfl (by kernel_rfl) (by kernel_rfl) (by kernel_rfl) (fun _ _ _ h => h) (Or.inl ⟨by rfl, ?_⟩) ?_
      rotate_left
      · intro w; go_simp; try with_reducible rfl
      (try simp only [Act.put, List.setIfInBounds_toArray, List.set_cons_zero, List.set_cons_succ])
      refine take_at (i := 3) (v := ?_) 39 rfl rfl (by kernel_rfl) (by kernel_rfl) (by kernel_rfl) (fun _ _ _ h => h) (Or.inl ⟨by rfl, ?_⟩) ?_
      rotate_left
      · intro w; go_simp; try with_reducible rfl
      (try simp only [Act.put, List.setIfInBounds_toArray, List.set_cons_zero, List.set_cons_succ])
      refine take_at (i := 4) (v := ?_) 40 rfl rfl (by kernel_rfl) (by kernel_rfl) (by kernel_rfl) (fun _ _ _ h => h) (Or.inl ⟨by rfl, ?_⟩) ?_
      rotate_left
      · intro w; go_simp; try with_reducible rfl
      (try simp only [Act.put, List.setIfInBounds_toArray, List.set_cons_zero, List.set_cons_succ])
      refine take_at (i := 5) (v := ?_) 41 rfl rfl (by kernel_rfl) (by kernel_rfl) (by kernel_rfl) (fun _ _ _ h => h) (Or.inl ⟨by rfl, ?_⟩) ?_
      rotate_left
      · intro w; go_simp; try with_reducible rfl
      (try simp only [Act.put, List.setIfInBounds_toArray, List.set_cons_zero, List.set_cons_succ])
      refine take_at (i := 6) (v := ?_) 42 rfl rfl (by kernel_rfl) (by kernel_rfl) (by kernel_rfl) (fun _ _ _ h => h) (Or.inl ⟨by rfl, ?_⟩) ?_
      rotate_left
      · intro w; go_simp; try with_reducible rfl
      (try simp only [Act.put, List.setIfInBounds_toArray, List.set_cons_zero, List.set_cons_succ])
      refine take_at (i := 7) (v := ?_) 43 rfl rfl (by kernel_rfl) (by kernel_rfl) (by kernel_rfl) (fun _ _ _ h => h) (Or.inl ⟨by rfl, ?_⟩) ?_
      rotate_left
      · intro w; go_simp; try with_reducible rfl
      (try simp only [Act.put, List.setIfInBounds_toArray, List.set_cons_zero, List.set_cons_succ])
      refine take_at (i := 8) (v := ?_) 44 rfl rfl (by kernel_rfl) (by kernel_rfl) (by kernel_rfl) (fun _ _ _ h => h) (Or.inl ⟨by rfl, ?_⟩) ?_
      rotate_left
      · intro w; go_simp; try with_reducible rfl
      (try simp only [Act.put, List.setIfInBounds_toArray, List.set_cons_zero, List.set_cons_succ])
      refine take_at (i := 9) (v := ?_) 45 rfl rfl (by kernel_rfl) (by kernel_rfl) (by kernel_rfl) (fun _ _ _ h => h) (Or.inl ⟨by rfl, ?_⟩) ?_
      rotate_left
      · intro w; go_simp; try with_reducible rfl
      (try simp only [Act.put, List.setIfInBounds_toArray, List.set_cons_zero, List.set_cons_succ])
      refine take_at (i := 10) (v := ?_) 46 rfl rfl (by kernel_rfl) (by kernel_rfl) (by kernel_rfl) (fun _ _ _ h => h) (Or.inl ⟨by rfl, ?_⟩) ?_
      rotate_left
      · intro w; go_simp; try with_reducible rfl
      (try simp only [Act.put, List.setIfInBounds_toArray, List.set_cons_zero, List.set_cons_succ])
      refine take_at (i := 12) (v := ?_) 48 rfl rfl (by kernel_rfl) (by kernel_rfl) (by kernel_rfl) (fun _ _ _ h => h) (Or.inl ⟨by rfl, ?_⟩) ?_
      rotate_left
      · intro w; go_simp; try with_reducible rfl
      (try simp only [Act.put, List.setIfInBounds_toArray, List.set_cons_zero, List.set_cons_succ])
      refine take_at (i := 13) (v := ?_) 49 rfl rfl (by kernel_rfl) (by kernel_rfl) (by kernel_rfl) (fun _ _ _ h => h) (Or.inl ⟨by rfl, ?_⟩) ?_
      rotate_left
      · intro w; go_simp; try with_reducible rfl
      (try simp only [Act.put, List.setIfInBounds_toArray, List.set_cons_zero, List.set_cons_succ])
      refine wpAny_ready (rs := [11]) (by kernel_rfl) (by simp) ?_
      refine AllReady.cons rfl (fun K hK => ?_) AllReady.nil
      go_simp
      refine hK _ _ ?_; clear hK K
      refine take_at (i := 14) (v := ?_) 50 rfl rfl (by kernel_rfl) (by kernel_rfl) (by kernel_rfl) (fun _ _ _ h => h) (Or.inl ⟨by rfl, ?_⟩) ?_
      rotate_left
      · intro w; go_simp; try with_reducible rfl
      (try simp only [Act.put, List.setIfInBounds_toArray, List.set_cons_zero, List.set_cons_succ])
      refine wpAny_ready (rs := [15]) (by kernel_rfl) (by simp) ?_
      refine AllReady.cons rfl (fun K hK => ?_) AllReady.nil
      go_simp
      refine hK _ _ ?_; clear hK K
      refine take_at (i := 16) (v := ?_) 52 rfl rfl (by kernel_rfl) (by kernel_rfl) (by kernel_rfl) (fun _ _ _ h => h) (Or.inl ⟨by rfl, ?_⟩) ?_
      rotate_left
      · intro w; go_simp; try with_reducible rfl
      (try simp only [Act.put, List.setIfInBounds_toArray, List.set_cons_zero, List.set_cons_succ])
      refine take_at (i := 17) (v := ?_) 53 rfl rfl (by kernel_rfl) (by kernel_rfl) (by kernel_rfl) (fun _ _ _ h => h) (Or.inl ⟨by rfl, ?_⟩) ?_
      rotate_left
      · intro w; go_simp; try with_reducible rfl
      (try simp only [Act.put, List.setIfInBounds_toArray, List.set_cons_zero, List.set_cons_succ])
      refine wpAny_done (by kernel_rfl) ?_ _
      go_wp2_with fail
      go_ret3
      refine ⟨_, zs, k1, true, rfl, O1.out.alloc _, I1.out, l1, s1, (B1.out.alloc B1.out.size _).drew, fun _ => ?_, fun h => by cases h⟩
      obtain ⟨t, e1, e2⟩ := T1.out trivial
      refine ⟨t, ?_, e1⟩
      rw [e2]
      refine many_none _ ?_
      rw [List.head?_drop, bs_get s k1 hk1]
      intro e; injection e with e; exact HC.out e
    have hcb : ((s[k1].toNat : Int) == 124) = true := by simp; omega
    have HDR : Hid ((bs s).drop k1 = 124 :: (bs s).drop (k1 + 1)) := hidI (drop_bs (by rw [bs_get s k1 hk1, hc])).1
    clear hc
    go_wp2_with fail
    refine wp_region_any (by kernel_rfl) ?_
    change wpAny _ _ _ _ _ _ _ (World.drew _)
    refine take_at (i := 0) (v := ?_) 36 rfl rfl (by kernel_rfl) (by kernel_rfl) (by kernel_rfl) (fun _ _ _ h => h) (Or.inl ⟨by rfl, ?_⟩) ?_
    rotate_left
    · intro w; go_simp; try with_reducible rfl
    (try simp only [Act.put, List.setIfInBounds_toArray, List.set_cons_zero, List.set_cons_succ])
    refine take_at (i := 1) (v := ?_) 37 rfl rfl (by kernel_rfl) (by kernel_rfl) (by kernel_rfl) (fun _ _ _ h => h) (Or.inl ⟨by rfl, ?_⟩) ?_
    rotate_left
    · intro w; go_simp; try with_reducible rfl
    (try simp only [Act.put, List.setIfInBounds_toArray, List.set_cons_zero, List.set_cons_succ])
    refine take_at (i := 2) (v := ?_) 38 rfl rfl (by kernel_rfl) (by kernel_rfl) (by kernel_rfl) (fun _ _ _ h => h) (Or.inl ⟨by rfl, ?_⟩) ?_
    rotate_left
    · intro w; go_simp; try with_reducible rfl
    (try simp only [Act.put, List.setIfInBounds_toArray, List.set_cons_zero, List.set_cons_succ])
    refine take_at (i := 3) (v := ?_) 39 rfl rfl (by kernel_rfl) (by kernel_rfl) (by kernel_rfl) (fun _ _ _ h => h) (Or.inl ⟨by rfl, ?_⟩) ?_
    rotate_left
    · intro w; go_simp; try with_reducible rfl
    (try simp only [Act.put, List.setIfInBounds_toArray, List.set_cons_zero, List.set_cons_succ])
    refine take_at (i := 4) (v := ?_) 40 rfl rfl (by kernel_rfl) (by kernel_rfl) (by kernel_rfl) (fun _ _ _ h => h) (Or.inl ⟨by rfl, ?_⟩) ?_
    rotate_left
    · intro w; go_simp; try with_reducible rfl
    (try simp only [Act.put, List.setIfInBounds_toArray, List.set_cons_zero, List.set_cons_succ])
    refine take_at (i := 5) (v := ?_) 41 rfl rfl (by kernel_rfl) (by kernel_rfl) (by kernel_rfl) (fun _ _ _ h => h) (Or.inl ⟨by rfl, ?_⟩) ?_
    rotate_left
    · intro w; go_simp; try with_reducible rfl
    (try simp only [Act.put, List.setIfInBounds_toArray, List.set_cons_zero, List.set_cons_succ])
    refine take_at (i := 6) (v := ?_) 42 rfl rfl (by kernel_rfl) (by kernel_rfl) (by kernel_rfl) (fun _ _ _ h => h) (Or.inl ⟨by rfl, ?_⟩) ?_
    rotate_left
    · intro w; go_simp; try with_reducible rfl
    (try simp only [Act.put, List.setIfInBounds_toArray, List.set_cons_zero, List.set_cons_succ])
    refine take_at (i := 7) (v := ?_) 43 rfl rfl (by kernel_rfl) (by kernel_rfl) (by kernel_rfl) (fun _ _ _ h => h) (Or.inl ⟨by rfl, ?_⟩) ?_
    rotate_left
    · intro w; go_simp; try with_reducible rfl
    (try simp only [Act.put, List.setIfInBounds_toArray, List.set_cons_zero, List.set_cons_succ])
    refine take_at (i := 8) (v := ?_) 44 rfl rfl (by kernel_rfl) (by kernel_rfl) (by kernel_rfl) (fun _ _ _ h => h) (Or.inl ⟨by rfl, ?_⟩) ?_
    rotate_left
    · intro w; go_simp; try with_reducible rfl
    (try simp only [Act.put, List.setIfInBounds_toArray, List.set_cons_zero, List.set_cons_succ])
    refine take_at (i := 9) (v := ?_) 45 rfl rfl (by kernel_rfl) (by kernel_rfl) (by kernel_rfl) (fun _ _ _ h => h) (Or.inl ⟨by rfl, ?_⟩) ?_
    rotate_left
    · intro w; go_simp; try with_reducible rfl
    (try simp only [Act.put, List.setIfInBounds_toArray, List.set_cons_zero, List.set_cons_succ])
    refine take_at (i := 10) (v := ?_) 46 rfl rfl (by kernel_rfl) (by kernel_rfl) (by kernel_rfl) (fun _ _ _ h => h) (Or.inl ⟨by rfl, ?_⟩) ?_
    rotate_left
    · intro w; go_simp; try with_reducible rfl
    (try simp only [Act.put, List.setIfInBounds_toArray, List.set_cons_zero, List.set_cons_succ])
    refine take_at (i := 12) (v := ?_) 48 rfl rfl (by kernel_rfl) (by kernel_rfl) (by kernel_rfl) (fun _ _ _ h => h) (Or.inl ⟨by rfl, ?_⟩) ?_
    rotate_left
    · intro w; go_simp; try with_reducible rfl
    (try simp only [Act.put, List.setIfInBounds_toArray, List.set_cons_zero, List.set_cons_succ])
    refine take_at (i := 13) (v := ?_) 49 rfl rfl (by kernel_rfl) (by kernel_rfl) (by kernel_rfl) (fun _ _ _ h => h) (Or.inl ⟨by rfl, ?_⟩) ?_
    rotate_left
    · intro w; go_simp; try with_reducible rfl
    (try simp only [Act.put, List.setIfInBounds_toArray, List.set_cons_zero, List.set_cons_succ])
    refine wpAny_ready (rs := [11]) (by kernel_rfl) (by simp) ?_
    refine AllReady.cons rfl (fun K hK => ?_) AllReady.nil
    go_simp
    refine hK _ _ ?_; clear hK K
    refine take_at (i := 14) (v := ?_) 50 rfl rfl (by kernel_rfl) (by kernel_rfl) (by kernel_rfl) (fun _ _ _ h => h) (Or.inl ⟨by rfl, ?_⟩) ?_
    rotate_left
    · intro w; go_simp; try with_reducible rfl
    (try simp only [Act.put, List.setIfInBounds_toArray, List.set_cons_zero, List.set_cons_succ])
    refine wpAny_ready (rs := [15]) (by kernel_rfl) (by simp) ?_
    refine AllReady.cons rfl (fun K hK => ?_) AllReady.nil
    go_simp
    refine hK _ _ ?_; clear hK K
    refine take_at (i := 16) (v := ?_) 52 rfl rfl (by kernel_rfl) (by kernel_rfl) (by kernel_rfl) (fun _ _ _ h => h) (Or.inl ⟨by rfl, ?_⟩) ?_
    rotate_left
    · intro w; go_simp; try with_reducible rfl
    (try simp only [Act.put, List.setIfInBounds_toArray, List.set_cons_zero, List.set_cons_succ])
    refine take_at (i := 17) (v := ?_) 53 rfl rfl (by kernel_rfl) (by kernel_rfl) (by kernel_rfl) (fun _ _ _ h => h) (Or.inl ⟨by rfl, ?_⟩) ?_
    rotate_left
    · intro w; go_simp; try with_reducible rfl
    (try simp only [Act.put, List.setIfInBounds_toArray, List.set_cons_zero, List.set_cons_succ])
    refine wpAny_done (by kernel_rfl) ?_ _
    go_wp2_with fail
    obtain ⟨wq, hwq⟩ : ∃ x, x = (wr.alloc (.cells #[.int .u8 124, .int .u8 38] 5)).drew := ⟨_, rfl⟩
    rw [← hwq]
    have O2 : Hid (wq.ownsRow w.heap.size 3 1 (.slice a zs.length c) zs.length (zs.map (Value.int .i64))) := hidI (by rw [hwq]; exact O1.out.alloc _)
    have B2 : Hid (Below w.heap.size w wq) := hidI (by rw [hwq]; exact (B1.out.alloc B1.out.size _).drew)
    clear hwq
    refine (HPP.out (k1 + 1) wq (by omega) (by omega)).mono ?_; rintro e w3 ⟨v3, zs3, k3, ok3, rfl, o3, i3, l3, s3, b3, t3, n3⟩
    obtain ⟨a3, c3, hv3⟩ := own_slice o3
    subst hv3
    have B3 := hidI (bthen B2.out b3)
    have T3 : Hid (ok3 = true → ∃ t, zs ++ zs3 ++ [9] = t.steps ∧ great p 124 9 ((bs s).drop k) = many p 124 9 (((bs s).drop k3).length + 1) t ((bs s).drop k3)) := hidI (fun h => by
      obtain ⟨t, e1, e2⟩ := T1.out trivial
      obtain ⟨t', f1, f2⟩ := t3 h
      refine ⟨.two 9 t t', by rw [e1, f2]; rfl, ?_⟩
      rw [e2, HDR.out, many_step _ f1]
      have hle := (hg _ _ _ f1).1
      exact many_fuel hg 124 9 _ _ _ _ (by simp only [List.length_cons]; omega) (Nat.lt_succ_self _))
    have N3 : Hid (ok3 = false → great p 124 9 ((bs s).drop k) = none) := hidI (fun h => by
      obtain ⟨t, e1, e2⟩ := T1.out trivial
      rw [e2, HDR.out]
      show many p 124 9 (((124 :: (bs s).drop (k1 + 1)).length) + 1) t (124 :: (bs s).drop (k1 + 1)) = none
      rw [many, if_pos rfl, n3 h])
    have hz1 : 1 ≤ zs.length := by obtain ⟨t, e1, _⟩ := T1.out trivial; rw [e1]; exact steps_ne t
    have IALL : Hid (∀ z ∈ zs ++ zs3 ++ [9], I64 z) := hidI (by
      intro z hz
      rcases List.mem_append.1 hz with hz | hz
      · rcases List.mem_append.1 hz with hz | hz
        · exact I1.out z hz
        · exact i3 z hz
      · simp at hz; subst hz; unfold I64; omega)
    have hx0 := (IntS.ofOwn (own_below O2.out b3) I1.out).2
    have hy0 := (IntS.ofOwn o3 i3).2
    have HX0 := hidI hx0; have HY0 := hidI hy0
    clear o3 i3 b3 t3 n3 hx0 hy0
    go_wp2_with fail
    refine wp_region_any (by kernel_rfl) ?_
    change wpAny _ _ _ _ _ _ _ (World.drew _)
    obtain ⟨W0, hW0⟩ : ∃ x, x = w3.drew := ⟨_, rfl⟩
    rw [← hW0]
    have W0b : Hid (Below w3.heap.size w3 W0) := hidI (by rw [hW0]; exact (Below.refl _ _).drew)
    have HW0S : Hid (w3.heap.size = W0.heap.size) := hidI (by rw [hW0]; rfl)
    have HW0L : w.heap.size ≤ W0.heap.size := by have := B3.out.size; have := W0b.out.size; omega
    have HX : Hid (∀ W, Below W0.heap.size W0 W → IntS W (.slice a zs.length c) zs) := hidI (fun W hW => (HX0.out.below W0b.out).below hW)
    have HY : Hid (∀ W, Below W0.heap.size W0 W → IntS W (.slice a3 zs3.length c3) zs3) := hidI (fun W hW => (HY0.out.below W0b.out).below hW)
    have YW0 := hidI (Below.refl W0.heap.size W0)
    clear hW0 HX0 HY0
    refine take_at (i := 1) (v := ?_) 66 rfl rfl (by kernel_rfl) (by kernel_rfl) (by kernel_rfl) (fun _ _ _ h => h) (Or.inl ⟨by rfl, ?_⟩) ?_
    rotate_left
    · intro w; go_simp; try with_reducible rfl
    (try simp only [Act.put, List.setIfInBounds_toArray, List.set_cons_zero, List.set_cons_succ])
    refine take_at (i := 3) (v := ?_) 68 rfl rfl (by kernel_rfl) (by kernel_rfl) (by kernel_rfl) (fun _ _ _ h => h) (Or.inl ⟨by rfl, ?_⟩) ?_
    rotate_left
    · intro w; go_simp; try with_reducible rfl
    (try simp only [Act.put, List.setIfInBounds_toArray, List.set_cons_zero, List.set_cons_succ])
    refine take_at (i := 6) (v := ?_) 71 rfl rfl (by kernel_rfl) (by kernel_rfl) (by kernel_rfl) (fun _ _ _ h => h) (Or.inl ⟨by rfl, ?_⟩) ?_
    rotate_left
    · intro w; go_simp; try with_reducible rfl
    (try simp only [Act.put, List.setIfInBounds_toArray, List.set_cons_zero, List.set_cons_succ])
    refine take_at (i := 7) (v := ?_) 72 rfl rfl (by kernel_rfl) (by kernel_rfl) (by kernel_rfl) (fun _ _ _ h => h) (Or.inl ⟨by rfl, ?_⟩) ?_
    rotate_left
    · intro w; go_simp; try with_reducible rfl
    (try simp only [Act.put, List.setIfInBounds_toArray, List.set_cons_zero, List.set_cons_succ])
    refine wpAny_ready (rs := [0, 5]) (by kernel_rfl) (by simp) ?_
    refine (AllReady.cons rfl (fun K hK => ?_) (AllReady.cons rfl (fun K hK => ?_) AllReady.nil))
    · skip
      go_simp
      refine hK _ _ ?_; clear hK K
      obtain ⟨x1, hW⟩ : ∃ x, x = World.alloc W0 (.cells #[] 3) := ⟨_, rfl⟩
      rw [← hW]
      obtain ⟨gR, hgg⟩ : ∃ g, g = W0.heap.size := ⟨_, rfl⟩
      rw [← hgg]
      have hsz : W0.heap.size < x1.heap.size := by rw [hW]; simp
      have Yx1 : Hid (Below W0.heap.size W0 x1) := hidI (by rw [hW]; exact YW0.out.alloc YW0.out.size _)
      obtain ⟨cR, hcR⟩ : ∃ c, c = 0 := ⟨_, rfl⟩
      have OR : Hid (World.ownsRow x1 W0.heap.size 3 1 (.slice (some ⟨gR, 0, none⟩) 0 cR) 0 (List.map (Value.int .i64) [])) := hidI (by rw [hW, hcR]; exact own_made hgg YW0.out.size _)
      have hcR2 : (Value.slice (some ⟨gR, 0, none⟩) 0 0) = Value.slice (some ⟨gR, 0, none⟩) 0 cR := by rw [hcR]
      rw [hcR2]; clear hcR2 hcR hgg hW
      refine wpAny_ready (rs := [2, 5]) (by kernel_rfl) (by simp) ?_
      refine (AllReady.cons rfl (fun K hK => ?_) (AllReady.cons rfl (fun K hK => ?_) AllReady.nil))
      · skip
        refine step_appendK rfl _ _ 22 rfl W0.heap.size 3 Try.underlying22 infoInt (.slice (some ⟨gR, 0, none⟩) 0 cR) 0 [] (.slice a zs.length c) zs rfl rfl zs.length (Nat.zero_add _) OR.out (HX.out _ Yx1.out) hz1 (by omega) Yx1.out.size ?_
        intro g' c' x2 hg' o' b' k'
        have Yx2 : Hid (Below W0.heap.size W0 x2) := hidI (Yx1.out.trans b')
        have OR := hidI o'
        refine hK _ _ ?_; clear hK K o' b' k'
        change wpAny _ _ _ _ _ _ (Act.put _ (some 67) _) _
        simp only [Act.put, List.setIfInBounds_toArray, List.set_cons_zero, List.set_cons_succ]
        obtain ⟨gR, rfl⟩ : ∃ g, g = g' := ⟨_, rfl⟩
        obtain ⟨cR, rfl⟩ : ∃ c, c = c' := ⟨_, rfl⟩
        refine wpAny_ready (rs := [4, 5]) (by kernel_rfl) (by simp) ?_
        refine (AllReady.cons rfl (fun K hK => ?_) (AllReady.cons rfl (fun K hK => ?_) AllReady.nil))
        · skip
          refine step_appendG rfl _ _ 22 rfl W0.heap.size 3 Try.underlying22 infoInt gR cR zs.length zs (.slice a3 zs3.length c3) zs3 rfl rfl (zs.length + zs3.length) rfl OR.out (HY.out _ Yx2.out) (by omega) Yx2.out.size ?_
          intro g' c' x3 hg' o' b' k'
          have Yx3 : Hid (Below W0.heap.size W0 x3) := hidI (Yx2.out.trans b')
          have OR := hidI o'
          refine hK _ _ ?_; clear hK K o' b' k'
          change wpAny _ _ _ _ _ _ (Act.put _ (some 69) _) _
          simp only [Act.put, List.setIfInBounds_toArray, List.set_cons_zero, List.set_cons_succ]
          obtain ⟨gR, rfl⟩ : ∃ g, g = g' := ⟨_, rfl⟩
          obtain ⟨cR, rfl⟩ : ∃ c, c = c' := ⟨_, rfl⟩
          refine wpAny_ready (rs := [5]) (by kernel_rfl) (by simp) ?_
          refine (AllReady.cons rfl (fun K hK => ?_) AllReady.nil)
          go_simp
          refine hK _ _ ?_; clear hK K
          obtain ⟨x4, hW⟩ : ∃ x, x = World.alloc x3 (.cells #[.int .i64 9, .int .i64 8] 3) := ⟨_, rfl⟩
          rw [← hW]
          obtain ⟨gB, hgg⟩ : ∃ g, g = x3.heap.size := ⟨_, rfl⟩
          rw [← hgg]
          have hsz : x3.heap.size < x4.heap.size := by rw [hW]; simp
          have Yx4 : Hid (Below W0.heap.size W0 x4) := hidI (by rw [hW]; exact Yx3.out.alloc Yx3.out.size _)
          have ORp := OR
          have OR : Hid (World.ownsRow x4 W0.heap.size 3 1 (.slice (some ⟨gR, 0, none⟩) (zs.length + zs3.length) cR) (zs.length + zs3.length) (List.map (Value.int .i64) (zs ++ zs3))) := hidI (by rw [hW]; exact OR.out.alloc _)
          have cb : x4.cell? ⟨gB, 0, none⟩ = some (.int .i64 9) := by rw [hW]; exact cell_at hgg rfl
          have hbl : gB < x4.heap.size := by omega
          have hnb : gB ≠ gR := by have h2 := (own_info ORp.out).2; omega
          clear hgg hW
          refine take_at (i := 8) (v := ?_) 73 rfl rfl (by kernel_rfl) (by kernel_rfl) (by kernel_rfl) (fun _ _ _ h => h) (Or.inl ⟨by rfl, ?_⟩) ?_
          rotate_left
          · intro w; go_simp; try with_reducible rfl
          (try simp only [Act.put, List.setIfInBounds_toArray, List.set_cons_zero, List.set_cons_succ])
          refine wpAny_ready (rs := [9]) (by kernel_rfl) (by simp) ?_
          refine (AllReady.cons rfl (fun K hK => ?_) AllReady.nil)
          go_simp
          refine hK _ _ ?_; clear hK K
          clear cb hbl hnb
          refine wpAny_ready (rs := [10]) (by kernel_rfl) (by simp) ?_
          refine (AllReady.cons rfl (fun K hK => ?_) AllReady.nil)
          go_simp
          refine hK _ _ ?_; clear hK K
          obtain ⟨x5, hW⟩ : ∃ x, x = World.alloc x4 (.cells #[.int .i64 9] 3) := ⟨_, rfl⟩
          rw [← hW]
          obtain ⟨gC, hgg⟩ : ∃ g, g = x4.heap.size := ⟨_, rfl⟩
          rw [← hgg]
          have hsz : x4.heap.size < x5.heap.size := by rw [hW]; simp
          have Yx5 : Hid (Below W0.heap.size W0 x5) := hidI (by rw [hW]; exact Yx4.out.alloc Yx4.out.size _)
          have ORp := OR
          have OR : Hid (World.ownsRow x5 W0.heap.size 3 1 (.slice (some ⟨gR, 0, none⟩) (zs.length + zs3.length) cR) (zs.length + zs3.length) (List.map (Value.int .i64) (zs ++ zs3))) := hidI (by rw [hW]; exact OR.out.alloc _)
          have CC : Hid (x5.cell? ⟨gC, 0, none⟩ = some (.int .i64 9)) := hidI (by rw [hW]; exact cell_at hgg rfl)
          have hcl : gC < x5.heap.size := by omega
          have hnc : gC ≠ gR := by have h2 := (own_info ORp.out).2; omega
          clear hgg hW
          refine wpAny_ready (rs := [11]) (by kernel_rfl) (by simp) ?_
          refine (AllReady.cons rfl (fun K hK => ?_) AllReady.nil)
          refine step_pushK rfl _ _ 22 rfl W0.heap.size 3 (.int .i64 0) 8 Try.underlying22 infoInt rfl (.slice (some ⟨gR, 0, none⟩) (zs.length + zs3.length) cR) (zs.length + zs3.length) ((zs ++ zs3).map (Value.int .i64)) (.int .i64 9) gC rfl rfl OR.out CC.out rfl (by omega) (by decide) Yx5.out.size ?_
          intro g' c' x6 hg' o' b' k'
          have Yx6 : Hid (Below W0.heap.size W0 x6) := hidI (Yx5.out.trans b')
          have OR := hidI o'
          refine hK _ _ ?_; clear hK K o' b' k'
          change wpAny _ _ _ _ _ _ (Act.put _ (some 76) _) _
          simp only [Act.put, List.setIfInBounds_toArray, List.set_cons_zero, List.set_cons_succ]
          refine take_at (i := 12) (v := ?_) 11 rfl rfl (by kernel_rfl) (by kernel_rfl) (by kernel_rfl) (fun _ _ _ h => h) (Or.inl ⟨by rfl, ?_⟩) ?_
          rotate_left
          · intro w; go_simp; try with_reducible rfl
          (try simp only [Act.put, List.setIfInBounds_toArray, List.set_cons_zero, List.set_cons_succ])
          refine wpAny_done (by kernel_rfl) ?_ _
          go_wp2_with fail
          refine ⟨?rel, ?measure⟩
          case rel => exact ⟨zs ++ zs3 ++ [9], k3, ok3, some ⟨g', 0, none⟩, c', by simp [Nat.add_assoc], rfl, rfl, by simp only [List.length_append, List.length_cons, List.length_nil]; omega, s3, hidI (by have := own_base OR.out HW0L; simpa [Nat.add_assoc] using this), IALL, hidI (bthen B3.out (W0b.out.trans (Yx6.out.mono (Nat.le_of_eq HW0S.out)))), T3, N3⟩
          case measure => simp [intOf]; omega
        · skip
          go_simp
          refine hK _ _ ?_; clear hK K
          obtain ⟨x3, hW⟩ : ∃ x, x = World.alloc x2 (.cells #[.int .i64 9, .int .i64 8] 3) := ⟨_, rfl⟩
          rw [← hW]
          obtain ⟨gB, hgg⟩ : ∃ g, g = x2.heap.size := ⟨_, rfl⟩
          rw [← hgg]
          have hsz : x2.heap.size < x3.heap.size := by rw [hW]; simp
          have Yx3 : Hid (Below W0.heap.size W0 x3) := hidI (by rw [hW]; exact Yx2.out.alloc Yx2.out.size _)
          have ORp := OR
          have OR : Hid (World.ownsRow x3 W0.heap.size 3 1 (.slice (some ⟨gR, 0, none⟩) zs.length cR) zs.length (List.map (Value.int .i64) zs)) := hidI (by rw [hW]; exact OR.out.alloc _)
          have cb : x3.cell? ⟨gB, 0, none⟩ = some (.int .i64 9) := by rw [hW]; exact cell_at hgg rfl
          have hbl : gB < x3.heap.size := by omega
          have hnb : gB ≠ gR := by have h2 := (own_info ORp.out).2; omega
          clear hgg hW
          refine take_at (i := 8) (v := ?_) 73 rfl rfl (by kernel_rfl) (by kernel_rfl) (by kernel_rfl) (fun _ _ _ h => h) (Or.inl ⟨by rfl, ?_⟩) ?_
          rotate_left
          · intro w; go_simp; try with_reducible rfl
          (try simp only [Act.put, List.setIfInBounds_toArray, List.set_cons_zero, List.set_cons_succ])
          refine wpAny_ready (rs := [4, 9]) (by kernel_rfl) (by simp) ?_
          refine (AllReady.cons rfl (fun K hK => ?_) (AllReady.cons rfl (fun K hK => ?_) AllReady.nil))
          · skip
            refine step_appendG rfl _ _ 22 rfl W0.heap.size 3 Try.underlying22 infoInt gR cR zs.length zs (.slice a3 zs3.length c3) zs3 rfl rfl (zs.length + zs3.length) rfl OR.out (HY.out _ Yx3.out) (by omega) Yx3.out.size ?_
            intro g' c' x4 hg' o' b' k'
            have Yx4 : Hid (Below W0.heap.size W0 x4) := hidI (Yx3.out.trans b')
            have kk := k'.2 gB hbl (fun e => hnb (by injection e with e; exact e.symm))
            have cb : x4.cell? ⟨gB, 0, none⟩ = some (.int .i64 9) := kk.2 _ _ cb
            have hnb : gB ≠ g' := kk.1
            have hbl : gB < x4.heap.size := cell_lt cb
            have OR := hidI o'
            refine hK _ _ ?_; clear hK K o' b' k' kk
            change wpAny _ _ _ _ _ _ (Act.put _ (some 69) _) _
            simp only [Act.put, List.setIfInBounds_toArray, List.set_cons_zero, List.set_cons_succ]
            obtain ⟨gR, rfl⟩ : ∃ g, g = g' := ⟨_, rfl⟩
            obtain ⟨cR, rfl⟩ : ∃ c, c = c' := ⟨_, rfl⟩
            refine wpAny_ready (rs := [9]) (by kernel_rfl) (by simp) ?_
            refine (AllReady.cons rfl (fun K hK => ?_) AllReady.nil)
            go_simp
            refine hK _ _ ?_; clear hK K
            clear cb hbl hnb
            refine wpAny_ready (rs := [10]) (by kernel_rfl) (by simp) ?_
            refine (AllReady.cons rfl (fun K hK => ?_) AllReady.nil)
            go_simp
            refine hK _ _ ?_; clear hK K
            obtain ⟨x5, hW⟩ : ∃ x, x = World.alloc x4 (.cells #[.int .i64 9] 3) := ⟨_, rfl⟩
            rw [← hW]
            obtain ⟨gC, hgg⟩ : ∃ g, g = x4.heap.size := ⟨_, rfl⟩
            rw [← hgg]
            have hsz : x4.heap.size < x5.heap.size := by rw [hW]; simp
            have Yx5 : Hid (Below W0.heap.size W0 x5) := hidI (by rw [hW]; exact Yx4.out.alloc Yx4.out.size _)
            have ORp := OR
            have OR : Hid (World.ownsRow x5 W0.heap.size 3 1 (.slice (some ⟨gR, 0, none⟩) (zs.length + zs3.length) cR) (zs.length + zs3.length) (List.map (Value.int .i64) (zs ++ zs3))) := hidI (by rw [hW]; exact OR.out.alloc _)
            have CC : Hid (x5.cell? ⟨gC, 0, none⟩ = some (.int .i64 9)) := hidI (by rw [hW]; exact cell_at hgg rfl)
            have hcl : gC < x5.heap.size := by omega
            have hnc : gC ≠ gR := by have h2 := (own_info ORp.out).2; omega
            clear hgg hW
            refine wpAny_ready (rs := [11]) (by kernel_rfl) (by simp) ?_
            refine (AllReady.cons rfl (fun K hK => ?_) AllReady.nil)
            refine step_pushK rfl _ _ 22 rfl W0.heap.size 3 (.int .i64 0) 8 Try.underlying22 infoInt rfl (.slice (some ⟨gR, 0, none⟩) (zs.length + zs3.length) cR) (zs.length + zs3.length) ((zs ++ zs3).map (Value.int .i64)) (.int .i64 9) gC rfl rfl OR.out CC.out rfl (by omega) (by decide) Yx5.out.size ?_
            intro g' c' x6 hg' o' b' k'
            have Yx6 : Hid (Below W0.heap.size W0 x6) := hidI (Yx5.out.trans b')
            have OR := hidI o'
            refine hK _ _ ?_; clear hK K o' b' k'
            change wpAny _ _ _ _ _ _ (Act.put _ (some 76) _) _
            simp only [Act.put, List.setIfInBounds_toArray, List.set_cons_zero, List.set_cons_succ]
            refine take_at (i := 12) (v := ?_) 11 rfl rfl (by kernel_rfl) (by kernel_rfl) (by kernel_rfl) (fun _ _ _ h => h) (Or.inl ⟨by rfl, ?_⟩) ?_
            rotate_left
            · intro w; go_simp; try with_reducible rfl
            (try simp only [Act.put, List.setIfInBounds_toArray, List.set_cons_zero, List.set_cons_succ])
            refine wpAny_done (by kernel_rfl) ?_ _
            go_wp2_with fail
            refine ⟨?rel, ?measure⟩
            case rel => exact ⟨zs ++ zs3 ++ [9], k3, ok3, some ⟨g', 0, none⟩, c', by simp [Nat.add_assoc], rfl, rfl, by simp only [List.length_append, List.length_cons, List.length_nil]; omega, s3, hidI (by have := own_base OR.out HW0L; simpa [Nat.add_assoc] using this), IALL, hidI (bthen B3.out (W0b.out.trans (Yx6.out.mono (Nat.le_of_eq HW0S.out)))), T3, N3⟩
            case measure => simp [intOf]; omega
          · skip
            go_simp
            refine hK _ _ ?_; clear hK K
            clear cb hbl hnb
            refine wpAny_ready (rs := [4, 10]) (by kernel_rfl) (by simp) ?_
            refine (AllReady.cons rfl (fun K hK => ?_) (AllReady.cons rfl (fun K hK => ?_) AllReady.nil))
            · skip
              refine step_appendG rfl _ _ 22 rfl W0.heap.size 3 Try.underlying22 infoInt gR cR zs.length zs (.slice a3 zs3.length c3) zs3 rfl rfl (zs.length + zs3.length) rfl OR.out (HY.out _ Yx3.out) (by omega) Yx3.out.size ?_
              intro g' c' x4 hg' o' b' k'
              have Yx4 : Hid (Below W0.heap.size W0 x4) := hidI (Yx3.out.trans b')
              have OR := hidI o'
              refine hK _ _ ?_; clear hK K o' b' k'
              change wpAny _ _ _ _ _ _ (Act.put _ (some 69) _) _
              simp only [Act.put, List.setIfInBounds_toArray, List.set_cons_zero, List.set_cons_succ]
              obtain ⟨gR, rfl⟩ : ∃ g, g = g' := ⟨_, rfl⟩
              obtain ⟨cR, rfl⟩ : ∃ c, c = c' := ⟨_, rfl⟩
              refine wpAny_ready (rs := [10]) (by kernel_rfl) (by simp) ?_
              refine (AllReady.cons rfl (fun K hK => ?_) AllReady.nil)
              go_simp
              refine hK _ _ ?_; clear hK K
              obtain ⟨x5, hW⟩ : ∃ x, x = World.alloc x4 (.cells #[.int .i64 9] 3) := ⟨_, rfl⟩
              rw [← hW]
              obtain ⟨gC, hgg⟩ : ∃ g, g = x4.heap.size := ⟨_, rfl⟩
              rw [← hgg]
              have hsz : x4.heap.size < x5.heap.size := by rw [hW]; simp
              have Yx5 : Hid (Below W0.heap.size W0 x5) := hidI (by rw [hW]; exact Yx4.out.alloc Yx4.out.size _)
              have ORp := OR
              have OR : Hid (World.ownsRow x5 W0.heap.size 3 1 (.slice (some ⟨gR, 0, none⟩) (zs.length + zs3.length) cR) (zs.length + zs3.length) (List.map (Value.int .i64) (zs ++ zs3))) := hidI (by rw [hW]; exact OR.out.alloc _)
              have CC : Hid (x5.cell? ⟨gC, 0, none⟩ = some (.int .i64 9)) := hidI (by rw [hW]; exact cell_at hgg rfl)
              have hcl : gC < x5.heap.size := by omega
              have hnc : gC ≠ gR := by have h2 := (own_info ORp.out).2; omega
              clear hgg hW
              refine wpAny_ready (rs := [11]) (by kernel_rfl) (by simp) ?_
              refine (AllReady.cons rfl (fun K hK => ?_) AllReady.nil)
              refine step_pushK rfl _ _ 22 rfl W0.heap.size 3 (.int .i64 0) 8 Try.underlying22 infoInt rfl (.slice (some ⟨gR, 0, none⟩) (zs.length + zs3.length) cR) (zs.length + zs3.length) ((zs ++ zs3).map (Value.int .i64)) (.int .i64 9) gC rfl rfl OR.out CC.out rfl (by omega) (by decide) Yx5.out.size ?_
              intro g' c' x6 hg' o' b' k'
              have Yx6 : Hid (Below W0.heap.size W0 x6) := hidI (Yx5.out.trans b')
              have OR := hidI o'
              refine hK _ _ ?_; clear hK K o' b' k'
              change wpAny _ _ _ _ _ _ (Act.put _ (some 76) _) _
              simp only [Act.put, List.setIfInBounds_toArray, List.set_cons_zero, List.set_cons_succ]
              refine take_at (i := 12) (v := ?_) 11 rfl rfl (by kernel_rfl) (by kernel_rfl) (by kernel_rfl) (fun _ _ _ h => h) (Or.inl ⟨by rfl, ?_⟩) ?_
              rotate_left
              · intro w; go_simp; try with_reducible rfl
              (try simp only [Act.put, List.setIfInBounds_toArray, List.set_cons_zero, List.set_cons_succ])
              refine wpAny_done (by kernel_rfl) ?_ _
              go_wp2_with fail
              refine ⟨?rel, ?measure⟩
              case rel => exact ⟨zs ++ zs3 ++ [9], k3, ok3, some ⟨g', 0, none⟩, c', by simp [Nat.add_assoc], rfl, rfl, by simp only [List.length_append, List.length_cons, List.length_nil]; omega, s3, hidI (by have := own_base OR.out HW0L; simpa [Nat.add_assoc] using this), IALL, hidI (bthen B3.out (W0b.out.trans (Yx6.out.mono (Nat.le_of_eq HW0S.out)))), T3, N3⟩
              case measure => simp [intOf]; omega
            · skip
              go_simp
              refine hK _ _ ?_; clear hK K
              obtain ⟨x4, hW⟩ : ∃ x, x = World.alloc x3 (.cells #[.int .i64 9] 3) := ⟨_, rfl⟩
              rw [← hW]
              obtain ⟨gC, hgg⟩ : ∃ g, g = x3.heap.size := ⟨_, rfl⟩
              rw [← hgg]
              have hsz : x3.heap.size < x4.heap.size := by rw [hW]; simp
              have Yx4 : Hid (Below W0.heap.size W0 x4) := hidI (by rw [hW]; exact Yx3.out.alloc Yx3.out.size _)
              have ORp := OR
              have OR : Hid (World.ownsRow x4 W0.heap.size 3 1 (.slice (some ⟨gR, 0, none⟩) zs.length cR) zs.length (List.map (Value.int .i64) zs)) := hidI (by rw [hW]; exact OR.out.alloc _)
              have CC : Hid (x4.cell? ⟨gC, 0, none⟩ = some (.int .i64 9)) := hidI (by rw [hW]; exact cell_at hgg rfl)
              have hcl : gC < x4.heap.size := by omega
              have hnc : gC ≠ gR := by have h2 := (own_info ORp.out).2; omega
              clear hgg hW
              refine wpAny_ready (rs := [4]) (by kernel_rfl) (by simp) ?_
              refine (AllReady.cons rfl (fun K hK => ?_) AllReady.nil)
              refine step_appendG rfl _ _ 22 rfl W0.heap.size 3 Try.underlying22 infoInt gR cR zs.length zs (.slice a3 zs3.length c3) zs3 rfl rfl (zs.length + zs3.length) rfl OR.out (HY.out _ Yx4.out) (by omega) Yx4.out.size ?_
              intro g' c' x5 hg' o' b' k'
              have Yx5 : Hid (Below W0.heap.size W0 x5) := hidI (Yx4.out.trans b')
              have kk := k'.2 gC hcl (fun e => hnc (by injection e with e; exact e.symm))
              have hcc : x5.cell? ⟨gC, 0, none⟩ = some (.int .i64 9) := kk.2 _ _ CC.out
              have hnc : gC ≠ g' := kk.1
              have hcl : gC < x5.heap.size := cell_lt hcc
              have CC := hidI hcc; clear hcc
              have OR := hidI o'
              refine hK _ _ ?_; clear hK K o' b' k' kk
              change wpAny _ _ _ _ _ _ (Act.put _ (some 69) _) _
              simp only [Act.put, List.setIfInBounds_toArray, List.set_cons_zero, List.set_cons_succ]
              obtain ⟨gR, rfl⟩ : ∃ g, g = g' := ⟨_, rfl⟩
              obtain ⟨cR, rfl⟩ : ∃ c, c = c' := ⟨_, rfl⟩
              refine wpAny_ready (rs := [11]) (by kernel_rfl) (by simp) ?_
              refine (AllReady.cons rfl (fun K hK => ?_) AllReady.nil)
              refine step_pushK rfl _ _ 22 rfl W0.heap.size 3 (.int .i64 0) 8 Try.underlying22 infoInt rfl (.slice (some ⟨gR, 0, none⟩) (zs.length + zs3.length) cR) (zs.length + zs3.length) ((zs ++ zs3).map (Value.int .i64)) (.int .i64 9) gC rfl rfl OR.out CC.out rfl (by omega) (by decide) Yx5.out.size ?_
              intro g' c' x6 hg' o' b' k'
              have Yx6 : Hid (Below W0.heap.size W0 x6) := hidI (Yx5.out.trans b')
              have OR := hidI o'
              refine hK _ _ ?_; clear hK K o' b' k'
              change wpAny _ _ _ _ _ _ (Act.put _ (some 76) _) _
              simp only [Act.put, List.setIfInBounds_toArray, List.set_cons_zero, List.set_cons_succ]
              refine take_at (i := 12) (v := ?_) 11 rfl rfl (by kernel_rfl) (by kernel_rfl) (by kernel_rfl) (fun _ _ _ h => h) (Or.inl ⟨by rfl, ?_⟩) ?_
              rotate_left
              · intro w; go_simp; try with_reducible rfl
              (try simp only [Act.put, List.setIfInBounds_toArray, List.set_cons_zero, List.set_cons_succ])
              refine wpAny_done (by kernel_rfl) ?_ _
              go_wp2_with fail
              refine ⟨?rel, ?measure⟩
              case rel => exact ⟨zs ++ zs3 ++ [9], k3, ok3, some ⟨g', 0, none⟩, c', by simp [Nat.add_assoc], rfl, rfl, by simp only [List.length_append, List.length_cons, List.length_nil]; omega, s3, hidI (by have := own_base OR.out HW0L; simpa [Nat.add_assoc] using this), IALL, hidI (bthen B3.out (W0b.out.trans (Yx6.out.mono (Nat.le_of_eq HW0S.out)))), T3, N3⟩
              case measure => simp [intOf]; omega
      · skip
        go_simp
        refine hK _ _ ?_; clear hK K
        obtain ⟨x2, hW⟩ : ∃ x, x = World.alloc x1 (.cells #[.int .i64 9, .int .i64 8] 3) := ⟨_, rfl⟩
        rw [← hW]
        obtain ⟨gB, hgg⟩ : ∃ g, g = x1.heap.size := ⟨_, rfl⟩
        rw [← hgg]
        have hsz : x1.heap.size < x2.heap.size := by rw [hW]; simp
        have Yx2 : Hid (Below W0.heap.size W0 x2) := hidI (by rw [hW]; exact Yx1.out.alloc Yx1.out.size _)
        have ORp := OR
        have OR : Hid (World.ownsRow x2 W0.heap.size 3 1 (.slice (some ⟨gR, 0, none⟩) 0 cR) 0 (List.map (Value.int .i64) [])) := hidI (by rw [hW]; exact OR.out.alloc _)
        have cb : x2.cell? ⟨gB, 0, none⟩ = some (.int .i64 9) := by rw [hW]; exact cell_at hgg rfl
        have hbl : gB < x2.heap.size := by omega
        have hnb : gB ≠ gR := by have h2 := (own_info ORp.out).2; omega
        clear hgg hW
        refine take_at (i := 8) (v := ?_) 73 rfl rfl (by kernel_rfl) (by kernel_rfl) (by kernel_rfl) (fun _ _ _ h => h) (Or.inl ⟨by rfl, ?_⟩) ?_
        rotate_left
        · intro w; go_simp; try with_reducible rfl
        (try simp only [Act.put, List.setIfInBounds_toArray, List.set_cons_zero, List.set_cons_succ])
        refine wpAny_ready (rs := [2, 9]) (by kernel_rfl) (by simp) ?_
        refine (AllReady.cons rfl (fun K hK => ?_) (AllReady.cons rfl (fun K hK => ?_) AllReady.nil))
        · skip
          refine step_appendK rfl _ _ 22 rfl W0.heap.size 3 Try.underlying22 infoInt (.slice (some ⟨gR, 0, none⟩) 0 cR) 0 [] (.slice a zs.length c) zs rfl rfl zs.length (Nat.zero_add _) OR.out (HX.out _ Yx2.out) hz1 (by omega) Yx2.out.size ?_
          intro g' c' x3 hg' o' b' k'
          have Yx3 : Hid (Below W0.heap.size W0 x3) := hidI (Yx2.out.trans b')
          have kk := k'.2 gB hbl (fun e => hnb (by injection e with e; exact e.symm))
          have cb : x3.cell? ⟨gB, 0, none⟩ = some (.int .i64 9) := kk.2 _ _ cb
          have hnb : gB ≠ g' := kk.1
          have hbl : gB < x3.heap.size := cell_lt cb
          have OR := hidI o'
          refine hK _ _ ?_; clear hK K o' b' k' kk
          change wpAny _ _ _ _ _ _ (Act.put _ (some 67) _) _
          simp only [Act.put, List.setIfInBounds_toArray, List.set_cons_zero, List.set_cons_succ]
          obtain ⟨gR, rfl⟩ : ∃ g, g = g' := ⟨_, rfl⟩
          obtain ⟨cR, rfl⟩ : ∃ c, c = c' := ⟨_, rfl⟩
          refine wpAny_ready (rs := [4, 9]) (by kernel_rfl) (by simp) ?_
          refine (AllReady.cons rfl (fun K hK => ?_) (AllReady.cons rfl (fun K hK => ?_) AllReady.nil))
          · skip
            refine step_appendG rfl _ _ 22 rfl W0.heap.size 3 Try.underlying22 infoInt gR cR zs.length zs (.slice a3 zs3.length c3) zs3 rfl rfl (zs.length + zs3.length) rfl OR.out (HY.out _ Yx3.out) (by omega) Yx3.out.size ?_
            intro g' c' x4 hg' o' b' k'
            have Yx4 : Hid (Below W0.heap.size W0 x4) := hidI (Yx3.out.trans b')
            have kk := k'.2 gB hbl (fun e => hnb (by injection e with e; exact e.symm))
            have cb : x4.cell? ⟨gB, 0, none⟩ = some (.int .i64 9) := kk.2 _ _ cb
            have hnb : gB ≠ g' := kk.1
            have hbl : gB < x4.heap.size := cell_lt cb
            have OR := hidI o'
            refine hK _ _ ?_; clear hK K o' b' k' kk
            change wpAny _ _ _ _ _ _ (Act.put _ (some 69) _) _
            simp only [Act.put, List.setIfInBounds_toArray, List.set_cons_zero, List.set_cons_succ]
            obtain ⟨gR, rfl⟩ : ∃ g, g = g' := ⟨_, rfl⟩
            obtain ⟨cR, rfl⟩ : ∃ c, c = c' := ⟨_, rfl⟩
            refine wpAny_ready (rs := [9]) (by kernel_rfl) (by simp) ?_
            refine (AllReady.cons rfl (fun K hK => ?_) AllReady.nil)
            go_simp
            refine hK _ _ ?_; clear hK K
            clear cb hbl hnb
            refine wpAny_ready (rs := [10]) (by kernel_rfl) (by simp) ?_
            refine (AllReady.cons rfl (fun K hK => ?_) AllReady.nil)
            go_simp
            refine hK _ _ ?_; clear hK K
            obtain ⟨x5, hW⟩ : ∃ x, x = World.alloc x4 (.cells #[.int .i64 9] 3) := ⟨_, rfl⟩
            rw [← hW]
            obtain ⟨gC, hgg⟩ : ∃ g, g = x4.heap.size := ⟨_, rfl⟩
            rw [← hgg]
            have hsz : x4.heap.size < x5.heap.size := by rw [hW]; simp
            have Yx5 : Hid (Below W0.heap.size W0 x5) := hidI (by rw [hW]; exact Yx4.out.alloc Yx4.out.size _)
            have ORp := OR
            have OR : Hid (World.ownsRow x5 W0.heap.size 3 1 (.slice (some ⟨gR, 0, none⟩) (zs.length + zs3.length) cR) (zs.length + zs3.length) (List.map (Value.int .i64) (zs ++ zs3))) := hidI (by rw [hW]; exact OR.out.alloc _)
            have CC : Hid (x5.cell? ⟨gC, 0, none⟩ = some (.int .i64 9)) := hidI (by rw [hW]; exact cell_at hgg rfl)
            have hcl : gC < x5.heap.size := by omega
            have hnc : gC ≠ gR := by have h2 := (own_info ORp.out).2; omega
            clear hgg hW
            refine wpAny_ready (rs := [11]) (by kernel_rfl) (by simp) ?_
            refine (AllReady.cons rfl (fun K hK => ?_) AllReady.nil)
            refine step_pushK rfl _ _ 22 rfl W0.heap.size 3 (.int .i64 0) 8 Try.underlying22 infoInt rfl (.slice (some ⟨gR, 0, none⟩) (zs.length + zs3.length) cR) (zs.length + zs3.length) ((zs ++ zs3).map (Value.int .i64)) (.int .i64 9) gC rfl rfl OR.out CC.out rfl (by omega) (by decide) Yx5.out.size ?_
            intro g' c' x6 hg' o' b' k'
            have Yx6 : Hid (Below W0.heap.size W0 x6) := hidI (Yx5.out.trans b')
            have OR := hidI o'
            refine hK _ _ ?_; clear hK K o' b' k'
            change wpAny _ _ _ _ _ _ (Act.put _ (some 76) _) _
            simp only [Act.put, List.setIfInBounds_toArray, List.set_cons_zero, List.set_cons_succ]
            refine take_at (i := 12) (v := ?_) 11 rfl rfl (by kernel_rfl) (by kernel_rfl) (by kernel_rfl) (fun _ _ _ h => h) (Or.inl ⟨by rfl, ?_⟩) ?_
            rotate_left
            · intro w; go_simp; try with_reducible rfl
            (try simp only [Act.put, List.setIfInBounds_toArray, List.set_cons_zero, List.set_cons_succ])
            refine wpAny_done (by kernel_rfl) ?_ _
            go_wp2_with fail
            refine ⟨?rel, ?measure⟩
            case rel => exact ⟨zs ++ zs3 ++ [9], k3, ok3, some ⟨g', 0, none⟩, c', by simp [Nat.add_assoc], rfl, rfl, by simp only [List.length_append, List.length_cons, List.length_nil]; omega, s3, hidI (by have := own_base OR.out HW0L; simpa [Nat.add_assoc] using this), IALL, hidI (bthen B3.out (W0b.out.trans (Yx6.out.mono (Nat.le_of_eq HW0S.out)))), T3, N3⟩
            case measure => simp [intOf]; omega
          · skip
            go_simp
            refine hK _ _ ?_; clear hK K
            clear cb hbl hnb
            refine wpAny_ready (rs := [4, 10]) (by kernel_rfl) (by simp) ?_
            refine (AllReady.cons rfl (fun K hK => ?_) (AllReady.cons rfl (fun K hK => ?_) AllReady.nil))
            · skip
              refine step_appendG rfl _ _ 22 rfl W0.heap.size 3 Try.underlying22 infoInt gR cR zs.length zs (.slice a3 zs3.length c3) zs3 rfl rfl (zs.length + zs3.length) rfl OR.out (HY.out _ Yx3.out) (by omega) Yx3.out.size ?_
              intro g' c' x4 hg' o' b' k'
              have Yx4 : Hid (Below W0.heap.size W0 x4) := hidI (Yx3.out.trans b')
              have OR := hidI o'
              refine hK _ _ ?_; clear hK K o' b' k'
              change wpAny _ _ _ _ _ _ (Act.put _ (some 69) _) _
              simp only [Act.put, List.setIfInBounds_toArray, List.set_cons_zero, List.set_cons_succ]
              obtain ⟨gR, rfl⟩ : ∃ g, g = g' := ⟨_, rfl⟩
              obtain ⟨cR, rfl⟩ : ∃ c, c = c' := ⟨_, rfl⟩
              refine wpAny_ready (rs := [10]) (by kernel_rfl) (by simp) ?_
              refine (AllReady.cons rfl (fun K hK => ?_) AllReady.nil)
              go_simp
              refine hK _ _ ?_; clear hK K
              obtain ⟨x5, hW⟩ : ∃ x, x = World.alloc x4 (.cells #[.int .i64 9] 3) := ⟨_, rfl⟩
              rw [← hW]
              obtain ⟨gC, hgg⟩ : ∃ g, g = x4.heap.size := ⟨_, rfl⟩
              rw [← hgg]
              have hsz : x4.heap.size < x5.heap.size := by rw [hW]; simp
              have Yx5 : Hid (Below W0.heap.size W0 x5) := hidI (by rw [hW]; exact Yx4.out.alloc Yx4.out.size _)
              have ORp := OR
              have OR : Hid (World.ownsRow x5 W0.heap.size 3 1 (.slice (some ⟨gR, 0, none⟩) (zs.length + zs3.length) cR) (zs.length + zs3.length) (List.map (Value.int .i64) (zs ++ zs3))) := hidI (by rw [hW]; exact OR.out.alloc _)
              have CC : Hid (x5.cell? ⟨gC, 0, none⟩ = some (.int .i64 9)) := hidI (by rw [hW]; exact cell_at hgg rfl)
              have hcl : gC < x5.heap.size := by omega
              have hnc : gC ≠ gR := by have h2 := (own_info ORp.out).2; omega
              clear hgg hW
              refine wpAny_ready (rs := [11]) (by kernel_rfl) (by simp) ?_
              refine (AllReady.cons rfl (fun K hK => ?_) AllReady.nil)
              refine step_pushK rfl _ _ 22 rfl W0.heap.size 3 (.int .i64 0) 8 Try.underlying22 infoInt rfl (.slice (some ⟨gR, 0, none⟩) (zs.length + zs3.length) cR) (zs.length + zs3.length) ((zs ++ zs3).map (Value.int .i64)) (.int .i64 9) gC rfl rfl OR.out CC.out rfl (by omega) (by decide) Yx5.out.size ?_
              intro g' c' x6 hg' o' b' k'
              have Yx6 : Hid (Below W0.heap.size W0 x6) := hidI (Yx5.out.trans b')
              have OR := hidI o'
              refine hK _ _ ?_; clear hK K o' b' k'
              change wpAny _ _ _ _ _ _ (Act.put _ (some 76) _) _
              simp only [Act.put, List.setIfInBounds_toArray, List.set_cons_zero, List.set_cons_succ]
              refine take_at (i := 12) (v := ?_) 11 rfl rfl (by kernel_rfl) (by kernel_rfl) (by kernel_rfl) (fun _ _ _ h => h) (Or.inl ⟨by rfl, ?_⟩) ?_
              rotate_left
              · intro w; go_simp; try with_reducible rfl
              (try simp only [Act.put, List.setIfInBounds_toArray, List.set_cons_zero, List.set_cons_succ])
              refine wpAny_done (by kernel_rfl) ?_ _
              go_wp2_with fail
              refine ⟨?rel, ?measure⟩
              case rel => exact ⟨zs ++ zs3 ++ [9], k3, ok3, some ⟨g', 0, none⟩, c', by simp [Nat.add_assoc], rfl, rfl, by simp only [List.length_append, List.length_cons, List.length_nil]; omega, s3, hidI (by have := own_base OR.out HW0L; simpa [Nat.add_assoc] using this), IALL, hidI (bthen B3.out (W0b.out.trans (Yx6.out.mono (Nat.le_of_eq HW0S.out)))), T3, N3⟩
              case measure => simp [intOf]; omega
            · skip
              go_simp
              refine hK _ _ ?_; clear hK K
              obtain ⟨x4, hW⟩ : ∃ x, x = World.alloc x3 (.cells #[.int .i64 9] 3) := ⟨_, rfl⟩
              rw [← hW]
              obtain ⟨gC, hgg⟩ : ∃ g, g = x3.heap.size := ⟨_, rfl⟩
              rw [← hgg]
              have hsz : x3.heap.size < x4.heap.size := by rw [hW]; simp
              have Yx4 : Hid (Below W0.heap.size W0 x4) := hidI (by rw [hW]; exact Yx3.out.alloc Yx3.out.size _)
              have ORp := OR
              have OR : Hid (World.ownsRow x4 W0.heap.size 3 1 (.slice (some ⟨gR, 0, none⟩) zs.length cR) zs.length (List.map (Value.int .i64) zs)) := hidI (by rw [hW]; exact OR.out.alloc _)
              have CC : Hid (x4.cell? ⟨gC, 0, none⟩ = some (.int .i64 9)) := hidI (by rw [hW]; exact cell_at hgg rfl)
              have hcl : gC < x4.heap.size := by omega
              have hnc : gC ≠ gR := by have h2 := (own_info ORp.out).2; omega
              clear hgg hW
              refine wpAny_ready (rs := [4]) (by kernel_rfl) (by simp) ?_
              refine (AllReady.cons rfl (fun K hK => ?_) AllReady.nil)
              refine step_appendG rfl _ _ 22 rfl W0.heap.size 3 Try.underlying22 infoInt gR cR zs.length zs (.slice a3 zs3.length c3) zs3 rfl rfl (zs.length + zs3.length) rfl OR.out (HY.out _ Yx4.out) (by omega) Yx4.out.size ?_
              intro g' c' x5 hg' o' b' k'
              have Yx5 : Hid (Below W0.heap.size W0 x5) := hidI (Yx4.out.trans b')
              have kk := k'.2 gC hcl (fun e => hnc (by injection e with e; exact e.symm))
              have hcc : x5.cell? ⟨gC, 0, none⟩ = some (.int .i64 9) := kk.2 _ _ CC.out
              have hnc : gC ≠ g' := kk.1
              have hcl : gC < x5.heap.size := cell_lt hcc
              have CC := hidI hcc; clear hcc
              have OR := hidI o'
              refine hK _ _ ?_; clear hK K o' b' k' kk
              change wpAny _ _ _ _ _ _ (Act.put _ (some 69) _) _
              simp only [Act.put, List.setIfInBounds_toArray, List.set_cons_zero, List.set_cons_succ]
              obtain ⟨gR, rfl⟩ : ∃ g, g = g' := ⟨_, rfl⟩
              obtain ⟨cR, rfl⟩ : ∃ c, c = c' := ⟨_, rfl⟩
              refine wpAny_ready (rs := [11]) (by kernel_rfl) (by simp) ?_
              refine (AllReady.cons rfl (fun K hK => ?_) AllReady.nil)
              refine step_pushK rfl _ _ 22 rfl W0.heap.size 3 (.int .i64 0) 8 Try.underlying22 infoInt rfl (.slice (some ⟨gR, 0, none⟩) (zs.length + zs3.length) cR) (zs.length + zs3.length) ((zs ++ zs3).map (Value.int .i64)) (.int .i64 9) gC rfl rfl OR.out CC.out rfl (by omega) (by decide) Yx5.out.size ?_
              intro g' c' x6 hg' o' b' k'
              have Yx6 : Hid (Below W0.heap.size W0 x6) := hidI (Yx5.out.trans b')
              have OR := hidI o'
              refine hK _ _ ?_; clear hK K o' b' k'
              change wpAny _ _ _ _ _ _ (Act.put _ (some 76) _) _
              simp only [Act.put, List.setIfInBounds_toArray, List.set_cons_zero, List.set_cons_succ]
              refine take_at (i := 12) (v := ?_) 11 rfl rfl (by kernel_rfl) (by kernel_rfl) (by kernel_rfl) (fun _ _ _ h => h) (Or.inl ⟨by rfl, ?_⟩) ?_
              rotate_left
              · intro w; go_simp; try with_reducible rfl
              (try simp only [Act.put, List.setIfInBounds_toArray, List.set_cons_zero, List.set_cons_succ])
              refine wpAny_done (by kernel_rfl) ?_ _
              go_wp2_with fail
              refine ⟨?rel, ?measure⟩
              case rel => exact ⟨zs ++ zs3 ++ [9], k3, ok3, some ⟨g', 0, none⟩, c', by simp [Nat.add_assoc], rfl, rfl, by simp only [List.length_append, List.length_cons, List.length_nil]; omega, s3, hidI (by have := own_base OR.out HW0L; simpa [Nat.add_assoc] using this), IALL, hidI (bthen B3.out (W0b.out.trans (Yx6.out.mono (Nat.le_of_eq HW0S.out)))), T3, N3⟩
              case measure => simp [intOf]; omega
        · skip
          go_simp
          refine hK _ _ ?_; clear hK K
          clear cb hbl hnb
          refine wpAny_ready (rs := [2, 10]) (by kernel_rfl) (by simp) ?_
          refine (AllReady.cons rfl (fun K hK => ?_) (AllReady.cons rfl (fun K hK => ?_) AllReady.nil))
          · skip
            refine step_appendK rfl _ _ 22 rfl W0.heap.size 3 Try.underlying22 infoInt (.slice (some ⟨gR, 0, none⟩) 0 cR) 0 [] (.slice a zs.length c) zs rfl rfl zs.length (Nat.zero_add _) OR.out (HX.out _ Yx2.out) hz1 (by omega) Yx2.out.size ?_
            intro g' c' x3 hg' o' b' k'
            have Yx3 : Hid (Below W0.heap.size W0 x3) := hidI (Yx2.out.trans b')
            have OR := hidI o'
            refine hK _ _ ?_; clear hK K o' b' k'
            change wpAny _ _ _ _ _ _ (Act.put _ (some 67) _) _
            simp only [Act.put, List.setIfInBounds_toArray, List.set_cons_zero, List.set_cons_succ]
            obtain ⟨gR, rfl⟩ : ∃ g, g = g' := ⟨_, rfl⟩
            obtain ⟨cR, rfl⟩ : ∃ c, c = c' := ⟨_, rfl⟩
            refine wpAny_ready (rs := [4, 10]) (by kernel_rfl) (by simp) ?_
            refine (AllReady.cons rfl (fun K hK => ?_) (AllReady.cons rfl (fun K hK => ?_) AllReady.nil))
            · skip
              refine step_appendG rfl _ _ 22 rfl W0.heap.size 3 Try.underlying22 infoInt gR cR zs.length zs (.slice a3 zs3.length c3) zs3 rfl rfl (zs.length + zs3.length) rfl OR.out (HY.out _ Yx3.out) (by omega) Yx3.out.size ?_
              intro g' c' x4 hg' o' b' k'
              have Yx4 : Hid (Below W0.heap.size W0 x4) := hidI (Yx3.out.trans b')
              have OR := hidI o'
              refine hK _ _ ?_; clear hK K o' b' k'
              change wpAny _ _ _ _ _ _ (Act.put _ (some 69) _) _
              simp only [Act.put, List.setIfInBounds_toArray, List.set_cons_zero, List.set_cons_succ]
              obtain ⟨gR, rfl⟩ : ∃ g, g = g' := ⟨_, rfl⟩
              obtain ⟨cR, rfl⟩ : ∃ c, c = c' := ⟨_, rfl⟩
              refine wpAny_ready (rs := [10]) (by kernel_rfl) (by simp) ?_
              refine (AllReady.cons rfl (fun K hK => ?_) AllReady.nil)
              go_simp
              refine hK _ _ ?_; clear hK K
              obtain ⟨x5, hW⟩ : ∃ x, x = World.alloc x4 (.cells #[.int .i64 9] 3) := ⟨_, rfl⟩
              rw [← hW]
              obtain ⟨gC, hgg⟩ : ∃ g, g = x4.heap.size := ⟨_, rfl⟩
              rw [← hgg]
              have hsz : x4.heap.size < x5.heap.size := by rw [hW]; simp
              have Yx5 : Hid (Below W0.heap.size W0 x5) := hidI (by rw [hW]; exact Yx4.out.alloc Yx4.out.size _)
              have ORp := OR
              have OR : Hid (World.ownsRow x5 W0.heap.size 3 1 (.slice (some ⟨gR, 0, none⟩) (zs.length + zs3.length) cR) (zs.length + zs3.length) (List.map (Value.int .i64) (zs ++ zs3))) := hidI (by rw [hW]; exact OR.out.alloc _)
              have CC : Hid (x5.cell? ⟨gC, 0, none⟩ = some (.int .i64 9)) := hidI (by rw [hW]; exact cell_at hgg rfl)
              have hcl : gC < x5.heap.size := by omega
              have hnc : gC ≠ gR := by have h2 := (own_info ORp.out).2; omega
              clear hgg hW
              refine wpAny_ready (rs := [11]) (by kernel_rfl) (by simp) ?_
              refine (AllReady.cons rfl (fun K hK => ?_) AllReady.nil)
              refine step_pushK rfl _ _ 22 rfl W0.heap.size 3 (.int .i64 0) 8 Try.underlying22 infoInt rfl (.slice (some ⟨gR, 0, none⟩) (zs.length + zs3.length) cR) (zs.length + zs3.length) ((zs ++ zs3).map (Value.int .i64)) (.int .i64 9) gC rfl rfl OR.out CC.out rfl (by omega) (by decide) Yx5.out.size ?_
              intro g' c' x6 hg' o' b' k'
              have Yx6 : Hid (Below W0.heap.size W0 x6) := hidI (Yx5.out.trans b')
              have OR := hidI o'
              refine hK _ _ ?_; clear hK K o' b' k'
              change wpAny _ _ _ _ _ _ (Act.put _ (some 76) _) _
              simp only [Act.put, List.setIfInBounds_toArray, List.set_cons_zero, List.set_cons_succ]
              refine take_at (i := 12) (v := ?_) 11 rfl rfl (by kernel_rfl) (by kernel_rfl) (by kernel_rfl) (fun _ _ _ h => h) (Or.inl ⟨by rfl, ?_⟩) ?_
              rotate_left
              · intro w; go_simp; try with_reducible rfl
              (try simp only [Act.put, List.setIfInBounds_toArray, List.set_cons_zero, List.set_cons_succ])
              refine wpAny_done (by kernel_rfl) ?_ _
              go_wp2_with fail
              refine ⟨?rel, ?measure⟩
              case rel => exact ⟨zs ++ zs3 ++ [9], k3, ok3, some ⟨g', 0, none⟩, c', by simp [Nat.add_assoc], rfl, rfl, by simp only [List.length_append, List.length_cons, List.length_nil]; omega, s3, hidI (by have := own_base OR.out HW0L; simpa [Nat.add_assoc] using this), IALL, hidI (bthen B3.out (W0b.out.trans (Yx6.out.mono (Nat.le_of_eq HW0S.out)))), T3, N3⟩
              case measure => simp [intOf]; omega
            · skip
              go_simp
              refine hK _ _ ?_; clear hK K
              obtain ⟨x4, hW⟩ : ∃ x, x = World.alloc x3 (.cells #[.int .i64 9] 3) := ⟨_, rfl⟩
              rw [← hW]
              obtain ⟨gC, hgg⟩ : ∃ g, g = x3.heap.size := ⟨_, rfl⟩
              rw [← hgg]
              have hsz : x3.heap.size < x4.heap.size := by rw [hW]; simp
              have Yx4 : Hid (Below W0.heap.size W0 x4) := hidI (by rw [hW]; exact Yx3.out.alloc Yx3.out.size _)
              have ORp := OR
              have OR : Hid (World.ownsRow x4 W0.heap.size 3 1 (.slice (some ⟨gR, 0, none⟩) zs.length cR) zs.length (List.map (Value.int .i64) zs)) := hidI (by rw [hW]; exact OR.out.alloc _)
              have CC : Hid (x4.cell? ⟨gC, 0, none⟩ = some (.int .i64 9)) := hidI (by rw [hW]; exact cell_at hgg rfl)
              have hcl : gC < x4.heap.size := by omega
              have hnc : gC ≠ gR := by have h2 := (own_info ORp.out).2; omega
              clear hgg hW
              refine wpAny_ready (rs := [4]) (by kernel_rfl) (by simp) ?_
              refine (AllReady.cons rfl (fun K hK => ?_) AllReady.nil)
              refine step_appendG rfl _ _ 22 rfl W0.heap.size 3 Try.underlying22 infoInt gR cR zs.length zs (.slice a3 zs3.length c3) zs3 rfl rfl (zs.length + zs3.length) rfl OR.out (HY.out _ Yx4.out) (by omega) Yx4.out.size ?_
              intro g' c' x5 hg' o' b' k'
              have Yx5 : Hid (Below W0.heap.size W0 x5) := hidI (Yx4.out.trans b')
              have kk := k'.2 gC hcl (fun e => hnc (by injection e with e; exact e.symm))
              have hcc : x5.cell? ⟨gC, 0, none⟩ = some (.int .i64 9) := kk.2 _ _ CC.out
              have hnc : gC ≠ g' := kk.1
              have hcl : gC < x5.heap.size := cell_lt hcc
              have CC := hidI hcc; clear hcc
              have OR := hidI o'
              refine hK _ _ ?_; clear hK K o' b' k' kk
              change wpAny _ _ _ _ _ _ (Act.put _ (some 69) _) _
              simp only [Act.put, List.setIfInBounds_toArray, List.set_cons_zero, List.set_cons_succ]
              obtain ⟨gR, rfl⟩ : ∃ g, g = g' := ⟨_, rfl⟩
              obtain ⟨cR, rfl⟩ : ∃ c, c = c' := ⟨_, rfl⟩
              refine wpAny_ready (rs := [11]) (by kernel_rfl) (by simp) ?_
              refine (AllReady.cons rfl (fun K hK => ?_) AllReady.nil)
              refine step_pushK rfl _ _ 22 rfl W0.heap.size 3 (.int .i64 0) 8 Try.underlying22 infoInt rfl (.slice (some ⟨gR, 0, none⟩) (zs.length + zs3.length) cR) (zs.length + zs3.length) ((zs ++ zs3).map (Value.int .i64)) (.int .i64 9) gC rfl rfl OR.out CC.out rfl (by omega) (by decide) Yx5.out.size ?_
              intro g' c' x6 hg' o' b' k'
              have Yx6 : Hid (Below W0.heap.size W0 x6) := hidI (Yx5.out.trans b')
              have OR := hidI o'
              refine hK _ _ ?_; clear hK K o' b' k'
              change wpAny _ _ _ _ _ _ (Act.put _ (some 76) _) _
              simp only [Act.put, List.setIfInBounds_toArray, List.set_cons_zero, List.set_cons_succ]
              refine take_at (i := 12) (v := ?_) 11 rfl rfl (by kernel_rfl) (by kernel_rfl) (by kernel_rfl) (fun _ _ _ h => h) (Or.inl ⟨by rfl, ?_⟩) ?_
              rotate_left
              · intro w; go_simp; try with_reducible rfl
              (try simp only [Act.put, List.setIfInBounds_toArray, List.set_cons_zero, List.set_cons_succ])
              refine wpAny_done (by kernel_rfl) ?_ _
              go_wp2_with fail
              refine ⟨?rel, ?measure⟩
              case rel => exact ⟨zs ++ zs3 ++ [9], k3, ok3, some ⟨g', 0, none⟩, c', by simp [Nat.add_assoc], rfl, rfl, by simp only [List.length_append, List.length_cons, List.length_nil]; omega, s3, hidI (by have := own_base OR.out HW0L; simpa [Nat.add_assoc] using this), IALL, hidI (bthen B3.out (W0b.out.trans (Yx6.out.mono (Nat.le_of_eq HW0S.out)))), T3, N3⟩
              case measure => simp [intOf]; omega
          · skip
            go_simp
            refine hK _ _ ?_; clear hK K
            obtain ⟨x3, hW⟩ : ∃ x, x = World.alloc x2 (.cells #[.int .i64 9] 3) := ⟨_, rfl⟩
            rw [← hW]
            obtain ⟨gC, hgg⟩ : ∃ g, g = x2.heap.size := ⟨_, rfl⟩
            rw [← hgg]
            have hsz : x2.heap.size < x3.heap.size := by rw [hW]; simp
            have Yx3 : Hid (Below W0.heap.size W0 x3) := hidI (by rw [hW]; exact Yx2.out.alloc Yx2.out.size _)
            have ORp := OR
            have OR : Hid (World.ownsRow x3 W0.heap.size 3 1 (.slice (some ⟨gR, 0, none⟩) 0 cR) 0 (List.map (Value.int .i64) [])) := hidI (by rw [hW]; exact OR.out.alloc _)
            have CC : Hid (x3.cell? ⟨gC, 0, none⟩ = some (.int .i64 9)) := hidI (by rw [hW]; exact cell_at hgg rfl)
            have hcl : gC < x3.heap.size := by omega
            have hnc : gC ≠ gR := by have h2 := (own_info ORp.out).2; omega
            clear hgg hW
            refine wpAny_ready (rs := [2]) (by kernel_rfl) (by simp) ?_
            refine (AllReady.cons rfl (fun K hK => ?_) AllReady.nil)
            refine step_appendK rfl _ _ 22 rfl W0.heap.size 3 Try.underlying22 infoInt (.slice (some ⟨gR, 0, none⟩) 0 cR) 0 [] (.slice a zs.length c) zs rfl rfl zs.length (Nat.zero_add _) OR.out (HX.out _ Yx3.out) hz1 (by omega) Yx3.out.size ?_
            intro g' c' x4 hg' o' b' k'
            have Yx4 : Hid (Below W0.heap.size W0 x4) := hidI (Yx3.out.trans b')
            have kk := k'.2 gC hcl (fun e => hnc (by injection e with e; exact e.symm))
            have hcc : x4.cell? ⟨gC, 0, none⟩ = some (.int .i64 9) := kk.2 _ _ CC.out
            have hnc : gC ≠ g' := kk.1
            have hcl : gC < x4.heap.size := cell_lt hcc
            have CC := hidI hcc; clear hcc
            have OR := hidI o'
            refine hK _ _ ?_; clear hK K o' b' k' kk
            change wpAny _ _ _ _ _ _ (Act.put _ (some 67) _) _
            simp only [Act.put, List.setIfInBounds_toArray, List.set_cons_zero, List.set_cons_succ]
            obtain ⟨gR, rfl⟩ : ∃ g, g = g' := ⟨_, rfl⟩
            obtain ⟨cR, rfl⟩ : ∃ c, c = c' := ⟨_, rfl⟩
            refine wpAny_ready (rs := [4]) (by kernel_rfl) (by simp) ?_
            refine (AllReady.cons rfl (fun K hK => ?_) AllReady.nil)
            refine step_appendG rfl _ _ 22 rfl W0.heap.size 3 Try.underlying22 infoInt gR cR zs.length zs (.slice a3 zs3.length c3) zs3 rfl rfl (zs.length + zs3.length) rfl OR.out (HY.out _ Yx4.out) (by omega) Yx4.out.size ?_
            intro g' c' x5 hg' o' b' k'
            have Yx5 : Hid (Below W0.heap.size W0 x5) := hidI (Yx4.out.trans b')
            have kk := k'.2 gC hcl (fun e => hnc (by injection e with e; exact e.symm))
            have hcc : x5.cell? ⟨gC, 0, none⟩ = some (.int .i64 9) := kk.2 _ _ CC.out
            have hnc : gC ≠ g' := kk.1
            have hcl : gC < x5.heap.size := cell_lt hcc
            have CC := hidI hcc; clear hcc
            have OR := hidI o'
            refine hK _ _ ?_; clear hK K o' b' k' kk
            change wpAny _ _ _ _ _ _ (Act.put _ (some 69) _) _
            simp only [Act.put, List.setIfInBounds_toArray, List.set_cons_zero, List.set_cons_succ]
            obtain ⟨gR, rfl⟩ : ∃ g, g = g' := ⟨_, rfl⟩
            obtain ⟨cR, rfl⟩ : ∃ c, c = c' := ⟨_, rfl⟩
            refine wpAny_ready (rs := [11]) (by kernel_rfl) (by simp) ?_
            refine (AllReady.cons rfl (fun K hK => ?_) AllReady.nil)
            refine step_pushK rfl _ _ 22 rfl W0.heap.size 3 (.int .i64 0) 8 Try.underlying22 infoInt rfl (.slice (some ⟨gR, 0, none⟩) (zs.length + zs3.length) cR) (zs.length + zs3.length) ((zs ++ zs3).map (Value.int .i64)) (.int .i64 9) gC rfl rfl OR.out CC.out rfl (by omega) (by decide) Yx5.out.size ?_
            intro g' c' x6 hg' o' b' k'
            have Yx6 : Hid (Below W0.heap.size W0 x6) := hidI (Yx5.out.trans b')
            have OR := hidI o'
            refine hK _ _ ?_; clear hK K o' b' k'
            change wpAny _ _ _ _ _ _ (Act.put _ (some 76) _) _
            simp only [Act.put, List.setIfInBounds_toArray, List.set_cons_zero, List.set_cons_succ]
            refine take_at (i := 12) (v := ?_) 11 rfl rfl (by kernel_rfl) (by kernel_rfl) (by kernel_rfl) (fun _ _ _ h => h) (Or.inl ⟨by rfl, ?_⟩) ?_
            rotate_left
            · intro w; go_simp; try with_reducible rfl
            (try simp only [Act.put, List.setIfInBounds_toArray, List.set_cons_zero, List.set_cons_succ])
            refine wpAny_done (by kernel_rfl) ?_ _
            go_wp2_with fail
            refine ⟨?rel, ?measure⟩
            case rel => exact ⟨zs ++ zs3 ++ [9], k3, ok3, some ⟨g', 0, none⟩, c', by simp [Nat.add_assoc], rfl, rfl, by simp only [List.length_append, List.length_cons, List.length_nil]; omega, s3, hidI (by have := own_base OR.out HW0L; simpa [Nat.add_assoc] using this), IALL, hidI (bthen B3.out (W0b.out.trans (Yx6.out.mono (Nat.le_of_eq HW0S.out)))), T3, N3⟩
            case measure => simp [intOf]; omega
    · skip
      go_simp
      refine hK _ _ ?_; clear hK K
      obtain ⟨x1, hW⟩ : ∃ x, x = World.alloc W0 (.cells #[.int .i64 9, .int .i64 8] 3) := ⟨_, rfl⟩
      rw [← hW]
      obtain ⟨gB, hgg⟩ : ∃ g, g = W0.heap.size := ⟨_, rfl⟩
      rw [← hgg]
      have hsz : W0.heap.size < x1.heap.size := by rw [hW]; simp
      have Yx1 : Hid (Below W0.heap.size W0 x1) := hidI (by rw [hW]; exact YW0.out.alloc YW0.out.size _)
      have cb : x1.cell? ⟨gB, 0, none⟩ = some (.int .i64 9) := by rw [hW]; exact cell_at hgg rfl
      have hbl : gB < x1.heap.size := by omega
      clear hgg hW
      refine take_at (i := 8) (v := ?_) 73 rfl rfl (by kernel_rfl) (by kernel_rfl) (by kernel_rfl) (fun _ _ _ h => h) (Or.inl ⟨by rfl, ?_⟩) ?_
      rotate_left
      · intro w; go_simp; try with_reducible rfl
      (try simp only [Act.put, List.setIfInBounds_toArray, List.set_cons_zero, List.set_cons_succ])
      refine wpAny_ready (rs := [0, 9]) (by kernel_rfl) (by simp) ?_
      refine (AllReady.cons rfl (fun K hK => ?_) (AllReady.cons rfl (fun K hK => ?_) AllReady.nil))
      · skip
        go_simp
        refine hK _ _ ?_; clear hK K
        obtain ⟨x2, hW⟩ : ∃ x, x = World.alloc x1 (.cells #[] 3) := ⟨_, rfl⟩
        rw [← hW]
        obtain ⟨gR, hgg⟩ : ∃ g, g = x1.heap.size := ⟨_, rfl⟩
        rw [← hgg]
        have hsz : x1.heap.size < x2.heap.size := by rw [hW]; simp
        have Yx2 : Hid (Below W0.heap.size W0 x2) := hidI (by rw [hW]; exact Yx1.out.alloc Yx1.out.size _)
        have cb : x2.cell? ⟨gB, 0, none⟩ = some (.int .i64 9) := by rw [hW]; exact cell_old hbl cb
        have hbl : gB < x2.heap.size := by omega
        obtain ⟨cR, hcR⟩ : ∃ c, c = 0 := ⟨_, rfl⟩
        have OR : Hid (World.ownsRow x2 W0.heap.size 3 1 (.slice (some ⟨gR, 0, none⟩) 0 cR) 0 (List.map (Value.int .i64) [])) := hidI (by rw [hW, hcR]; exact own_made hgg Yx1.out.size _)
        have hnb : gB ≠ gR := by omega
        have hcR2 : (Value.slice (some ⟨gR, 0, none⟩) 0 0) = Value.slice (some ⟨gR, 0, none⟩) 0 cR := by rw [hcR]
        rw [hcR2]; clear hcR2 hcR hgg hW
        refine wpAny_ready (rs := [2, 9]) (by kernel_rfl) (by simp) ?_
        refine (AllReady.cons rfl (fun K hK => ?_) (AllReady.cons rfl (fun K hK => ?_) AllReady.nil))
        · skip
          refine step_appendK rfl _ _ 22 rfl W0.heap.size 3 Try.underlying22 infoInt (.slice (some ⟨gR, 0, none⟩) 0 cR) 0 [] (.slice a zs.length c) zs rfl rfl zs.length (Nat.zero_add _) OR.out (HX.out _ Yx2.out) hz1 (by omega) Yx2.out.size ?_
          intro g' c' x3 hg' o' b' k'
          have Yx3 : Hid (Below W0.heap.size W0 x3) := hidI (Yx2.out.trans b')
          have kk := k'.2 gB hbl (fun e => hnb (by injection e with e; exact e.symm))
          have cb : x3.cell? ⟨gB, 0, none⟩ = some (.int .i64 9) := kk.2 _ _ cb
          have hnb : gB ≠ g' := kk.1
          have hbl : gB < x3.heap.size := cell_lt cb
          have OR := hidI o'
          refine hK _ _ ?_; clear hK K o' b' k' kk
          change wpAny _ _ _ _ _ _ (Act.put _ (some 67) _) _
          simp only [Act.put, List.setIfInBounds_toArray, List.set_cons_zero, List.set_cons_succ]
          obtain ⟨gR, rfl⟩ : ∃ g, g = g' := ⟨_, rfl⟩
          obtain ⟨cR, rfl⟩ : ∃ c, c = c' := ⟨_, rfl⟩
          refine wpAny_ready (rs := [4, 9]) (by kernel_rfl) (by simp) ?_
          refine (AllReady.cons rfl (fun K hK => ?_) (AllReady.cons rfl (fun K hK => ?_) AllReady.nil))
          · skip
            refine step_appendG rfl _ _ 22 rfl W0.heap.size 3 Try.underlying22 infoInt gR cR zs.length zs (.slice a3 zs3.length c3) zs3 rfl rfl (zs.length + zs3.length) rfl OR.out (HY.out _ Yx3.out) (by omega) Yx3.out.size ?_
            intro g' c' x4 hg' o' b' k'
            have Yx4 : Hid (Below W0.heap.size W0 x4) := hidI (Yx3.out.trans b')
            have kk := k'.2 gB hbl (fun e => hnb (by injection e with e; exact e.symm))
            have cb : x4.cell? ⟨gB, 0, none⟩ = some (.int .i64 9) := kk.2 _ _ cb
            have hnb : gB ≠ g' := kk.1
            have hbl : gB < x4.heap.size := cell_lt cb
            have OR := hidI o'
            refine hK _ _ ?_; clear hK K o' b' k' kk
            change wpAny _ _ _ _ _ _ (Act.put _ (some 69) _) _
            simp only [Act.put, List.setIfInBounds_toArray, List.set_cons_zero, List.set_cons_succ]
            obtain ⟨gR, rfl⟩ : ∃ g, g = g' := ⟨_, rfl⟩
            obtain ⟨cR, rfl⟩ : ∃ c, c = c' := ⟨_, rfl⟩
            refine wpAny_ready (rs := [9]) (by kernel_rfl) (by simp) ?_
            refine (AllReady.cons rfl (fun K hK => ?_) AllReady.nil)
            go_simp
            refine hK _ _ ?_; clear hK K
            clear cb hbl hnb
            refine wpAny_ready (rs := [10]) (by kernel_rfl) (by simp) ?_
            refine (AllReady.cons rfl (fun K hK => ?_) AllReady.nil)
            go_simp
            refine hK _ _ ?_; clear hK K
            obtain ⟨x5, hW⟩ : ∃ x, x = World.alloc x4 (.cells #[.int .i64 9] 3) := ⟨_, rfl⟩
            rw [← hW]
            obtain ⟨gC, hgg⟩ : ∃ g, g = x4.heap.size := ⟨_, rfl⟩
            rw [← hgg]
            have hsz : x4.heap.size < x5.heap.size := by rw [hW]; simp
            have Yx5 : Hid (Below W0.heap.size W0 x5) := hidI (by rw [hW]; exact Yx4.out.alloc Yx4.out.size _)
            have ORp := OR
            have OR : Hid (World.ownsRow x5 W0.heap.size 3 1 (.slice (some ⟨gR, 0, none⟩) (zs.length + zs3.length) cR) (zs.length + zs3.length) (List.map (Value.int .i64) (zs ++ zs3))) := hidI (by rw [hW]; exact OR.out.alloc _)
            have CC : Hid (x5.cell? ⟨gC, 0, none⟩ = some (.int .i64 9)) := hidI (by rw [hW]; exact cell_at hgg rfl)
            have hcl : gC < x5.heap.size := by omega
            have hnc : gC ≠ gR := by have h2 := (own_info ORp.out).2; omega
            clear hgg hW
            refine wpAny_ready (rs := [11]) (by kernel_rfl) (by simp) ?_
            refine (AllReady.cons rfl (fun K hK => ?_) AllReady.nil)
            refine step_pushK rfl _ _ 22 rfl W0.heap.size 3 (.int .i64 0) 8 Try.underlying22 infoInt rfl (.slice (some ⟨gR, 0, none⟩) (zs.length + zs3.length) cR) (zs.length + zs3.length) ((zs ++ zs3).map (Value.int .i64)) (.int .i64 9) gC rfl rfl OR.out CC.out rfl (by omega) (by decide) Yx5.out.size ?_
            intro g' c' x6 hg' o' b' k'
            have Yx6 : Hid (Below W0.heap.size W0 x6) := hidI (Yx5.out.trans b')
            have OR := hidI o'
            refine hK _ _ ?_; clear hK K o' b' k'
            change wpAny _ _ _ _ _ _ (Act.put _ (some 76) _) _
            simp only [Act.put, List.setIfInBounds_toArray, List.set_cons_zero, List.set_cons_succ]
            refine take_at (i := 12) (v := ?_) 11 rfl rfl (by kernel_rfl) (by kernel_rfl) (by kernel_rfl) (fun _ _ _ h => h) (Or.inl ⟨by rfl, ?_⟩) ?_
            rotate_left
            · intro w; go_simp; try with_reducible rfl
            (try simp only [Act.put, List.setIfInBounds_toArray, List.set_cons_zero, List.set_cons_succ])
            refine wpAny_done (by kernel_rfl) ?_ _
            go_wp2_with fail
            refine ⟨?rel, ?measure⟩
            case rel => exact ⟨zs ++ zs3 ++ [9], k3, ok3, some ⟨g', 0, none⟩, c', by simp [Nat.add_assoc], rfl, rfl, by simp only [List.length_append, List.length_cons, List.length_nil]; omega, s3, hidI (by have := own_base OR.out HW0L; simpa [Nat.add_assoc] using this), IALL, hidI (bthen B3.out (W0b.out.trans (Yx6.out.mono (Nat.le_of_eq HW0S.out)))), T3, N3⟩
            case measure => simp [intOf]; omega
          · skip
            go_simp
            refine hK _ _ ?_; clear hK K
            clear cb hbl hnb
            refine wpAny_ready (rs := [4, 10]) (by kernel_rfl) (by simp) ?_
            refine (AllReady.cons rfl (fun K hK => ?_) (AllReady.cons rfl (fun K hK => ?_) AllReady.nil))
            · skip
              refine step_appendG rfl _ _ 22 rfl W0.heap.size 3 Try.underlying22 infoInt gR cR zs.length zs (.slice a3 zs3.length c3) zs3 rfl rfl (zs.length + zs3.length) rfl OR.out (HY.out _ Yx3.out) (by omega) Yx3.out.size ?_
              intro g' c' x4 hg' o' b' k'
              have Yx4 : Hid (Below W0.heap.size W0 x4) := hidI (Yx3.out.trans b')
              have OR := hidI o'
              refine hK _ _ ?_; clear hK K o' b' k'
              change wpAny _ _ _ _ _ _ (Act.put _ (some 69) _) _
              simp only [Act.put, List.setIfInBounds_toArray, List.set_cons_zero, List.set_cons_succ]
              obtain ⟨gR, rfl⟩ : ∃ g, g = g' := ⟨_, rfl⟩
              obtain ⟨cR, rfl⟩ : ∃ c, c = c' := ⟨_, rfl⟩
              refine wpAny_ready (rs := [10]) (by kernel_rfl) (by simp) ?_
              refine (AllReady.cons rfl (fun K hK => ?_) AllReady.nil)
              go_simp
              refine hK _ _ ?_; clear hK K
              obtain ⟨x5, hW⟩ : ∃ x, x = World.alloc x4 (.cells #[.int .i64 9] 3) := ⟨_, rfl⟩
              rw [← hW]
              obtain ⟨gC, hgg⟩ : ∃ g, g = x4.heap.size := ⟨_, rfl⟩
              rw [← hgg]
              have hsz : x4.heap.size < x5.heap.size := by rw [hW]; simp
              have Yx5 : Hid (Below W0.heap.size W0 x5) := hidI (by rw [hW]; exact Yx4.out.alloc Yx4.out.size _)
              have ORp := OR
              have OR : Hid (World.ownsRow x5 W0.heap.size 3 1 (.slice (some ⟨gR, 0, none⟩) (zs.length + zs3.length) cR) (zs.length + zs3.length) (List.map (Value.int .i64) (zs ++ zs3))) := hidI (by rw [hW]; exact OR.out.alloc _)
              have CC : Hid (x5.cell? ⟨gC, 0, none⟩ = some (.int .i64 9)) := hidI (by rw [hW]; exact cell_at hgg rfl)
              have hcl : gC < x5.heap.size := by omega
              have hnc : gC ≠ gR := by have h2 := (own_info ORp.out).2; omega
              clear hgg hW
              refine wpAny_ready (rs := [11]) (by kernel_rfl) (by simp) ?_
              refine (AllReady.cons rfl (fun K hK => ?_) AllReady.nil)
              refine step_pushK rfl _ _ 22 rfl W0.heap.size 3 (.int .i64 0) 8 Try.underlying22 infoInt rfl (.slice (some ⟨gR, 0, none⟩) (zs.length + zs3.length) cR) (zs.length + zs3.length) ((zs ++ zs3).map (Value.int .i64)) (.int .i64 9) gC rfl rfl OR.out CC.out rfl (by omega) (by decide) Yx5.out.size ?_
              intro g' c' x6 hg' o' b' k'
              have Yx6 : Hid (Below W0.heap.size W0 x6) := hidI (Yx5.out.trans b')
              have OR := hidI o'
              refine hK _ _ ?_; clear hK K o' b' k'
              change wpAny _ _ _ _ _ _ (Act.put _ (some 76) _) _
              simp only [Act.put, List.setIfInBounds_toArray, List.set_cons_zero, List.set_cons_succ]
              refine take_at (i := 12) (v := ?_) 11 rfl rfl (by kernel_rfl) (by kernel_rfl) (by kernel_rfl) (fun _ _ _ h => h) (Or.inl ⟨by rfl, ?_⟩) ?_
              rotate_left
              · intro w; go_simp; try with_reducible rfl
              (try simp only [Act.put, List.setIfInBounds_toArray, List.set_cons_zero, List.set_cons_succ])
              refine wpAny_done (by kernel_rfl) ?_ _
              go_wp2_with fail
              refine ⟨?rel, ?measure⟩
              case rel => exact ⟨zs ++ zs3 ++ [9], k3, ok3, some ⟨g', 0, none⟩, c', by simp [Nat.add_assoc], rfl, rfl, by simp only [List.length_append, List.length_cons, List.length_nil]; omega, s3, hidI (by have := own_base OR.out HW0L; simpa [Nat.add_assoc] using this), IALL, hidI (bthen B3.out (W0b.out.trans (Yx6.out.mono (Nat.le_of_eq HW0S.out)))), T3, N3⟩
              case measure => simp [intOf]; omega
            · skip
              go_simp
              refine hK _ _ ?_; clear hK K
              obtain ⟨x4, hW⟩ : ∃ x, x = World.alloc x3 (.cells #[.int .i64 9] 3) := ⟨_, rfl⟩
              rw [← hW]
              obtain ⟨gC, hgg⟩ : ∃ g, g = x3.heap.size := ⟨_, rfl⟩
              rw [← hgg]
              have hsz : x3.heap.size < x4.heap.size := by rw [hW]; simp
              have Yx4 : Hid (Below W0.heap.size W0 x4) := hidI (by rw [hW]; exact Yx3.out.alloc Yx3.out.size _)
              have ORp := OR
              have OR : Hid (World.ownsRow x4 W0.heap.size 3 1 (.slice (some ⟨gR, 0, none⟩) zs.length cR) zs.length (List.map (Value.int .i64) zs)) := hidI (by rw [hW]; exact OR.out.alloc _)
              have CC : Hid (x4.cell? ⟨gC, 0, none⟩ = some (.int .i64 9)) := hidI (by rw [hW]; exact cell_at hgg rfl)
              have hcl : gC < x4.heap.size := by omega
              have hnc : gC ≠ gR := by have h2 := (own_info ORp.out).2; omega
              clear hgg hW
              refine wpAny_ready (rs := [4]) (by kernel_rfl) (by simp) ?_
              refine (AllReady.cons rfl (fun K hK => ?_) AllReady.nil)
              refine step_appendG rfl _ _ 22 rfl W0.heap.size 3 Try.underlying22 infoInt gR cR zs.length zs (.slice a3 zs3.length c3) zs3 rfl rfl (zs.length + zs3.length) rfl OR.out (HY.out _ Yx4.out) (by omega) Yx4.out.size ?_
              intro g' c' x5 hg' o' b' k'
              have Yx5 : Hid (Below W0.heap.size W0 x5) := hidI (Yx4.out.trans b')
              have kk := k'.2 gC hcl (fun e => hnc (by injection e with e; exact e.symm))
              have hcc : x5.cell? ⟨gC, 0, none⟩ = some (.int .i64 9) := kk.2 _ _ CC.out
              have hnc : gC ≠ g' := kk.1
              have hcl : gC < x5.heap.size := cell_lt hcc
              have CC := hidI hcc; clear hcc
              have OR := hidI o'
              refine hK _ _ ?_; clear hK K o' b' k' kk
              change wpAny _ _ _ _ _ _ (Act.put _ (some 69) _) _
              simp only [Act.put, List.setIfInBounds_toArray, List.set_cons_zero, List.set_cons_succ]
              obtain ⟨gR, rfl⟩ : ∃ g, g = g' := ⟨_, rfl⟩
              obtain ⟨cR, rfl⟩ : ∃ c, c = c' := ⟨_, rfl⟩
              refine wpAny_ready (rs := [11]) (by kernel_rfl) (by simp) ?_
              refine (AllReady.cons rfl (fun K hK => ?_) AllReady.nil)
              refine step_pushK rfl _ _ 22 rfl W0.heap.size 3 (.int .i64 0) 8 Try.underlying22 infoInt rfl (.slice (some ⟨gR, 0, none⟩) (zs.length + zs3.length) cR) (zs.length + zs3.length) ((zs ++ zs3).map (Value.int .i64)) (.int .i64 9) gC rfl rfl OR.out CC.out rfl (by omega) (by decide) Yx5.out.size ?_
              intro g' c' x6 hg' o' b' k'
              have Yx6 : Hid (Below W0.heap.size W0 x6) := hidI (Yx5.out.trans b')
              have OR := hidI o'
              refine hK _ _ ?_; clear hK K o' b' k'
              change wpAny _ _ _ _ _ _ (Act.put _ (some 76) _) _
              simp only [Act.put, List.setIfInBounds_toArray, List.set_cons_zero, List.set_cons_succ]
              refine take_at (i := 12) (v := ?_) 11 rfl rfl (by kernel_rfl) (by kernel_rfl) (by kernel_rfl) (fun _ _ _ h => h) (Or.inl ⟨by rfl, ?_⟩) ?_
              rotate_left
              · intro w; go_simp; try with_reducible rfl
              (try simp only [Act.put, List.setIfInBounds_toArray, List.set_cons_zero, List.set_cons_succ])
              refine wpAny_done (by kernel_rfl) ?_ _
              go_wp2_with fail
              refine ⟨?rel, ?measure⟩
              case rel => exact ⟨zs ++ zs3 ++ [9], k3, ok3, some ⟨g', 0, none⟩, c', by simp [Nat.add_assoc], rfl, rfl, by simp only [List.length_append, List.length_cons, List.length_nil]; omega, s3, hidI (by have := own_base OR.out HW0L; simpa [Nat.add_assoc] using this), IALL, hidI (bthen B3.out (W0b.out.trans (Yx6.out.mono (Nat.le_of_eq HW0S.out)))), T3, N3⟩
              case measure => simp [intOf]; omega
        · skip
          go_simp
          refine hK _ _ ?_; clear hK K
          clear cb hbl hnb
          refine wpAny_ready (rs := [2, 10]) (by kernel_rfl) (by simp) ?_
          refine (AllReady.cons rfl (fun K hK => ?_) (AllReady.cons rfl (fun K hK => ?_) AllReady.nil))
          · skip
            refine step_appendK rfl _ _ 22 rfl W0.heap.size 3 Try.underlying22 infoInt (.slice (some ⟨gR, 0, none⟩) 0 cR) 0 [] (.slice a zs.length c) zs rfl rfl zs.length (Nat.zero_add _) OR.out (HX.out _ Yx2.out) hz1 (by omega) Yx2.out.size ?_
            intro g' c' x3 hg' o' b' k'
            have Yx3 : Hid (Below W0.heap.size W0 x3) := hidI (Yx2.out.trans b')
            have OR := hidI o'
            refine hK _ _ ?_; clear hK K o' b' k'
            change wpAny _ _ _ _ _ _ (Act.put _ (some 67) _) _
            simp only [Act.put, List.setIfInBounds_toArray, List.set_cons_zero, List.set_cons_succ]
            obtain ⟨gR, rfl⟩ : ∃ g, g = g' := ⟨_, rfl⟩
            obtain ⟨cR, rfl⟩ : ∃ c, c = c' := ⟨_, rfl⟩
            refine wpAny_ready (rs := [4, 10]) (by kernel_rfl) (by simp) ?_
            refine (AllReady.cons rfl (fun K hK => ?_) (AllReady.cons rfl (fun K hK => ?_) AllReady.nil))
            · skip
              refine step_appendG rfl _ _ 22 rfl W0.heap.size 3 Try.underlying22 infoInt gR cR zs.length zs (.slice a3 zs3.length c3) zs3 rfl rfl (zs.length + zs3.length) rfl OR.out (HY.out _ Yx3.out) (by omega) Yx3.out.size ?_
              intro g' c' x4 hg' o' b' k'
              have Yx4 : Hid (Below W0.heap.size W0 x4) := hidI (Yx3.out.trans b')
              have OR := hidI o'
              refine hK _ _ ?_; clear hK K o' b' k'
              change wpAny _ _ _ _ _ _ (Act.put _ (some 69) _) _
              simp only [Act.put, List.setIfInBounds_toArray, List.set_cons_zero, List.set_cons_succ]
              obtain ⟨gR, rfl⟩ : ∃ g, g = g' := ⟨_, rfl⟩
              obtain ⟨cR, rfl⟩ : ∃ c, c = c' := ⟨_, rfl⟩
              refine wpAny_ready (rs := [10]) (by kernel_rfl) (by simp) ?_
              refine (AllReady.cons rfl (fun K hK => ?_) AllReady.nil)
              go_simp
              refine hK _ _ ?_; clear hK K
              obtain ⟨x5, hW⟩ : ∃ x, x = World.alloc x4 (.cells #[.int .i64 9] 3) := ⟨_, rfl⟩
              rw [← hW]
              obtain ⟨gC, hgg⟩ : ∃ g, g = x4.heap.size := ⟨_, rfl⟩
              rw [← hgg]
              have hsz : x4.heap.size < x5.heap.size := by rw [hW]; simp
              have Yx5 : Hid (Below W0.heap.size W0 x5) := hidI (by rw [hW]; exact Yx4.out.alloc Yx4.out.size _)
              have ORp := OR
              have OR : Hid (World.ownsRow x5 W0.heap.size 3 1 (.slice (some ⟨gR, 0, none⟩) (zs.length + zs3.length) cR) (zs.length + zs3.length) (List.map (Value.int .i64) (zs ++ zs3))) := hidI (by rw [hW]; exact OR.out.alloc _)
              have CC : Hid (x5.cell? ⟨gC, 0, none⟩ = some (.int .i64 9)) := hidI (by rw [hW]; exact cell_at hgg rfl)
              have hcl : gC < x5.heap.size := by omega
              have hnc : gC ≠ gR := by have h2 := (own_info ORp.out).2; omega
              clear hgg hW
              refine wpAny_ready (rs := [11]) (by kernel_rfl) (by simp) ?_
              refine (AllReady.cons rfl (fun K hK => ?_) AllReady.nil)
              refine step_pushK rfl _ _ 22 rfl W0.heap.size 3 (.int .i64 0) 8 Try.underlying22 infoInt rfl (.slice (some ⟨gR, 0, none⟩) (zs.length + zs3.length) cR) (zs.length + zs3.length) ((zs ++ zs3).map (Value.int .i64)) (.int .i64 9) gC rfl rfl OR.out CC.out rfl (by omega) (by decide) Yx5.out.size ?_
              intro g' c' x6 hg' o' b' k'
              have Yx6 : Hid (Below W0.heap.size W0 x6) := hidI (Yx5.out.trans b')
              have OR := hidI o'
              refine hK _ _ ?_; clear hK K o' b' k'
              change wpAny _ _ _ _ _ _ (Act.put _ (some 76) _) _
              simp only [Act.put, List.setIfInBounds_toArray, List.set_cons_zero, List.set_cons_succ]
              refine take_at (i := 12) (v := ?_) 11 rfl rfl (by kernel_rfl) (by kernel_rfl) (by kernel_rfl) (fun _ _ _ h => h) (Or.inl ⟨by rfl, ?_⟩) ?_
              rotate_left
              · intro w; go_simp; try with_reducible rfl
              (try simp only [Act.put, List.setIfInBounds_toArray, List.set_cons_zero, List.set_cons_succ])
              refine wpAny_done (by kernel_rfl) ?_ _
              go_wp2_with fail
              refine ⟨?rel, ?measure⟩
              case rel => exact ⟨zs ++ zs3 ++ [9], k3, ok3, some ⟨g', 0, none⟩, c', by simp [Nat.add_assoc], rfl, rfl, by simp only [List.length_append, List.length_cons, List.length_nil]; omega, s3, hidI (by have := own_base OR.out HW0L; simpa [Nat.add_assoc] using this), IALL, hidI (bthen B3.out (W0b.out.trans (Yx6.out.mono (Nat.le_of_eq HW0S.out)))), T3, N3⟩
              case measure => simp [intOf]; omega
            · skip
              go_simp
              refine hK _ _ ?_; clear hK K
              obtain ⟨x4, hW⟩ : ∃ x, x = World.alloc x3 (.cells #[.int .i64 9] 3) := ⟨_, rfl⟩
              rw [← hW]
              obtain ⟨gC, hgg⟩ : ∃ g, g = x3.heap.size := ⟨_, rfl⟩
              rw [← hgg]
              have hsz : x3.heap.size < x4.heap.size := by rw [hW]; simp
              have Yx4 : Hid (Below W0.heap.size W0 x4) := hidI (by rw [hW]; exact Yx3.out.alloc Yx3.out.size _)
              have ORp := OR
              have OR : Hid (World.ownsRow x4 W0.heap.size 3 1 (.slice (some ⟨gR, 0, none⟩) zs.length cR) zs.length (List.map (Value.int .i64) zs)) := hidI (by rw [hW]; exact OR.out.alloc _)
              have CC : Hid (x4.cell? ⟨gC, 0, none⟩ = some (.int .i64 9)) := hidI (by rw [hW]; exact cell_at hgg rfl)
              have hcl : gC < x4.heap.size := by omega
              have hnc : gC ≠ gR := by have h2 := (own_info ORp.out).2; omega
              clear hgg hW
              refine wpAny_ready (rs := [4]) (by kernel_rfl) (by simp) ?_
              refine (AllReady.cons rfl (fun K hK => ?_) AllReady.nil)
              refine step_appendG rfl _ _ 22 rfl W0.heap.size 3 Try.underlying22 infoInt gR cR zs.length zs (.slice a3 zs3.length c3) zs3 rfl rfl (zs.length + zs3.length) rfl OR.out (HY.out _ Yx4.out) (by omega) Yx4.out.size ?_
              intro g' c' x5 hg' o' b' k'
              have Yx5 : Hid (Below W0.heap.size W0 x5) := hidI (Yx4.out.trans b')
              have kk := k'.2 gC hcl (fun e => hnc (by injection e with e; exact e.symm))
              have hcc : x5.cell? ⟨gC, 0, none⟩ = some (.int .i64 9) := kk.2 _ _ CC.out
              have hnc : gC ≠ g' := kk.1
              have hcl : gC < x5.heap.size := cell_lt hcc
              have CC := hidI hcc; clear hcc
              have OR := hidI o'
              refine hK _ _ ?_; clear hK K o' b' k' kk
              change wpAny _ _ _ _ _ _ (Act.put _ (some 69) _) _
              simp only [Act.put, List.setIfInBounds_toArray, List.set_cons_zero, List.set_cons_succ]
              obtain ⟨gR, rfl⟩ : ∃ g, g = g' := ⟨_, rfl⟩
              obtain ⟨cR, rfl⟩ : ∃ c, c = c' := ⟨_, rfl⟩
              refine wpAny_ready (rs := [11]) (by kernel_rfl) (by simp) ?_
              refine (AllReady.cons rfl (fun K hK => ?_) AllReady.nil)
              refine step_pushK rfl _ _ 22 rfl W0.heap.size 3 (.int .i64 0) 8 Try.underlying22 infoInt rfl (.slice (some ⟨gR, 0, none⟩) (zs.length + zs3.length) cR) (zs.length + zs3.length) ((zs ++ zs3).map (Value.int .i64)) (.int .i64 9) gC rfl rfl OR.out CC.out rfl (by omega) (by decide) Yx5.out.size ?_
              intro g' c' x6 hg' o' b' k'
              have Yx6 : Hid (Below W0.heap.size W0 x6) := hidI (Yx5.out.trans b')
              have OR := hidI o'
              refine hK _ _ ?_; clear hK K o' b' k'
              change wpAny _ _ _ _ _ _ (Act.put _ (some 76) _) _
              simp only [Act.put, List.setIfInBounds_toArray, List.set_cons_zero, List.set_cons_succ]
              refine take_at (i := 12) (v := ?_) 11 rfl rfl (by kernel_rfl) (by kernel_rfl) (by kernel_rfl) (fun _ _ _ h => h) (Or.inl ⟨by rfl, ?_⟩) ?_
              rotate_left
              · intro w; go_simp; try with_reducible rfl
              (try simp only [Act.put, List.setIfInBounds_toArray, List.set_cons_zero, List.set_cons_succ])
              refine wpAny_done (by kernel_rfl) ?_ _
              go_wp2_with fail
              refine ⟨?rel, ?measure⟩
              case rel => exact ⟨zs ++ zs3 ++ [9], k3, ok3, some ⟨g', 0, none⟩, c', by simp [Nat.add_assoc], rfl, rfl, by simp only [List.length_append, List.length_cons, List.length_nil]; omega, s3, hidI (by have := own_base OR.out HW0L; simpa [Nat.add_assoc] using this), IALL, hidI (bthen B3.out (W0b.out.trans (Yx6.out.mono (Nat.le_of_eq HW0S.out)))), T3, N3⟩
              case measure => simp [intOf]; omega
          · skip
            go_simp
            refine hK _ _ ?_; clear hK K
            obtain ⟨x3, hW⟩ : ∃ x, x = World.alloc x2 (.cells #[.int .i64 9] 3) := ⟨_, rfl⟩
            rw [← hW]
            obtain ⟨gC, hgg⟩ : ∃ g, g = x2.heap.size := ⟨_, rfl⟩
            rw [← hgg]
            have hsz : x2.heap.size < x3.heap.size := by rw [hW]; simp
            have Yx3 : Hid (Below W0.heap.size W0 x3) := hidI (by rw [hW]; exact Yx2.out.alloc Yx2.out.size _)
            have ORp := OR
            have OR : Hid (World.ownsRow x3 W0.heap.size 3 1 (.slice (some ⟨gR, 0, none⟩) 0 cR) 0 (List.map (Value.int .i64) [])) := hidI (by rw [hW]; exact OR.out.alloc _)
            have CC : Hid (x3.cell? ⟨gC, 0, none⟩ = some (.int .i64 9)) := hidI (by rw [hW]; exact cell_at hgg rfl)
            have hcl : gC < x3.heap.size := by omega
            have hnc : gC ≠ gR := by have h2 := (own_info ORp.out).2; omega
            clear hgg hW
            refine wpAny_ready (rs := [2]) (by kernel_rfl) (by simp) ?_
            refine (AllReady.cons rfl (fun K hK => ?_) AllReady.nil)
            refine step_appendK rfl _ _ 22 rfl W0.heap.size 3 Try.underlying22 infoInt (.slice (some ⟨gR, 0, none⟩) 0 cR) 0 [] (.slice a zs.length c) zs rfl rfl zs.length (Nat.zero_add _) OR.out (HX.out _ Yx3.out) hz1 (by omega) Yx3.out.size ?_
            intro g' c' x4 hg' o' b' k'
            have Yx4 : Hid (Below W0.heap.size W0 x4) := hidI (Yx3.out.trans b')
            have kk := k'.2 gC hcl (fun e => hnc (by injection e with e; exact e.symm))
            have hcc : x4.cell? ⟨gC, 0, none⟩ = some (.int .i64 9) := kk.2 _ _ CC.out
            have hnc : gC ≠ g' := kk.1
            have hcl : gC < x4.heap.size := cell_lt hcc
            have CC := hidI hcc; clear hcc
            have OR := hidI o'
            refine hK _ _ ?_; clear hK K o' b' k' kk
            change wpAny _ _ _ _ _ _ (Act.put _ (some 67) _) _
            simp only [Act.put, List.setIfInBounds_toArray, List.set_cons_zero, List.set_cons_succ]
            obtain ⟨gR, rfl⟩ : ∃ g, g = g' := ⟨_, rfl⟩
            obtain ⟨cR, rfl⟩ : ∃ c, c = c' := ⟨_, rfl⟩
            refine wpAny_ready (rs := [4]) (by kernel_rfl) (by simp) ?_
            refine (AllReady.cons rfl (fun K hK => ?_) AllReady.nil)
            refine step_appendG rfl _ _ 22 rfl W0.heap.size 3 Try.underlying22 infoInt gR cR zs.length zs (.slice a3 zs3.length c3) zs3 rfl rfl (zs.length + zs3.length) rfl OR.out (HY.out _ Yx4.out) (by omega) Yx4.out.size ?_
            intro g' c' x5 hg' o' b' k'
            have Yx5 : Hid (Below W0.heap.size W0 x5) := hidI (Yx4.out.trans b')
            have kk := k'.2 gC hcl (fun e => hnc (by injection e with e; exact e.symm))
            have hcc : x5.cell? ⟨gC, 0, none⟩ = some (.int .i64 9) := kk.2 _ _ CC.out
            have hnc : gC ≠ g' := kk.1
            have hcl : gC < x5.heap.size := cell_lt hcc
            have CC := hidI hcc; clear hcc
            have OR := hidI o'
            refine hK _ _ ?_; clear hK K o' b' k' kk
            change wpAny _ _ _ _ _ _ (Act.put _ (some 69) _) _
            simp only [Act.put, List.setIfInBounds_toArray, List.set_cons_zero, List.set_cons_succ]
            obtain ⟨gR, rfl⟩ : ∃ g, g = g' := ⟨_, rfl⟩
            obtain ⟨cR, rfl⟩ : ∃ c, c = c' := ⟨_, rfl⟩
            refine wpAny_ready (rs := [11]) (by kernel_rfl) (by simp) ?_
            refine (AllReady.cons rfl (fun K hK => ?_) AllReady.nil)
            refine step_pushK rfl _ _ 22 rfl W0.heap.size 3 (.int .i64 0) 8 Try.underlying22 infoInt rfl (.slice (some ⟨gR, 0, none⟩) (zs.length + zs3.length) cR) (zs.length + zs3.length) ((zs ++ zs3).map (Value.int .i64)) (.int .i64 9) gC rfl rfl OR.out CC.out rfl (by omega) (by decide) Yx5.out.size ?_
            intro g' c' x6 hg' o' b' k'
            have Yx6 : Hid (Below W0.heap.size W0 x6) := hidI (Yx5.out.trans b')
            have OR := hidI o'
            refine hK _ _ ?_; clear hK K o' b' k'
            change wpAny _ _ _ _ _ _ (Act.put _ (some 76) _) _
            simp only [Act.put, List.setIfInBounds_toArray, List.set_cons_zero, List.set_cons_succ]
            refine take_at (i := 12) (v := ?_) 11 rfl rfl (by kernel_rfl) (by kernel_rfl) (by kernel_rfl) (fun _ _ _ h => h) (Or.inl ⟨by rfl, ?_⟩) ?_
            rotate_left
            · intro w; go_simp; try with_reducible rfl
            (try simp only [Act.put, List.setIfInBounds_toArray, List.set_cons_zero, List.set_cons_succ])
            refine wpAny_done (by kernel_rfl) ?_ _
            go_wp2_with fail
            refine ⟨?rel, ?measure⟩
            case rel => exact ⟨zs ++ zs3 ++ [9], k3, ok3, some ⟨g', 0, none⟩, c', by simp [Nat.add_assoc], rfl, rfl, by simp only [List.length_append, List.length_cons, List.length_nil]; omega, s3, hidI (by have := own_base OR.out HW0L; simpa [Nat.add_assoc] using this), IALL, hidI (bthen B3.out (W0b.out.trans (Yx6.out.mono (Nat.le_of_eq HW0S.out)))), T3, N3⟩
            case measure => simp [intOf]; omega
      · skip
        go_simp
        refine hK _ _ ?_; clear hK K
        clear cb hbl
        refine wpAny_ready (rs := [0, 10]) (by kernel_rfl) (by simp) ?_
        refine (AllReady.cons rfl (fun K hK => ?_) (AllReady.cons rfl (fun K hK => ?_) AllReady.nil))
        · skip
          go_simp
          refine hK _ _ ?_; clear hK K
          obtain ⟨x2, hW⟩ : ∃ x, x = World.alloc x1 (.cells #[] 3) := ⟨_, rfl⟩
          rw [← hW]
          obtain ⟨gR, hgg⟩ : ∃ g, g = x1.heap.size := ⟨_, rfl⟩
          rw [← hgg]
          have hsz : x1.heap.size < x2.heap.size := by rw [hW]; simp
          have Yx2 : Hid (Below W0.heap.size W0 x2) := hidI (by rw [hW]; exact Yx1.out.alloc Yx1.out.size _)
          obtain ⟨cR, hcR⟩ : ∃ c, c = 0 := ⟨_, rfl⟩
          have OR : Hid (World.ownsRow x2 W0.heap.size 3 1 (.slice (some ⟨gR, 0, none⟩) 0 cR) 0 (List.map (Value.int .i64) [])) := hidI (by rw [hW, hcR]; exact own_made hgg Yx1.out.size _)
          have hcR2 : (Value.slice (some ⟨gR, 0, none⟩) 0 0) = Value.slice (some ⟨gR, 0, none⟩) 0 cR := by rw [hcR]
          rw [hcR2]; clear hcR2 hcR hgg hW
          refine wpAny_ready (rs := [2, 10]) (by kernel_rfl) (by simp) ?_
          refine (AllReady.cons rfl (fun K hK => ?_) (AllReady.cons rfl (fun K hK => ?_) AllReady.nil))
          · skip
            refine step_appendK rfl _ _ 22 rfl W0.heap.size 3 Try.underlying22 infoInt (.slice (some ⟨gR, 0, none⟩) 0 cR) 0 [] (.slice a zs.length c) zs rfl rfl zs.length (Nat.zero_add _) OR.out (HX.out _ Yx2.out) hz1 (by omega) Yx2.out.size ?_
            intro g' c' x3 hg' o' b' k'
            have Yx3 : Hid (Below W0.heap.size W0 x3) := hidI (Yx2.out.trans b')
            have OR := hidI o'
            refine hK _ _ ?_; clear hK K o' b' k'
            change wpAny _ _ _ _ _ _ (Act.put _ (some 67) _) _
            simp only [Act.put, List.setIfInBounds_toArray, List.set_cons_zero, List.set_cons_succ]
            obtain ⟨gR, rfl⟩ : ∃ g, g = g' := ⟨_, rfl⟩
            obtain ⟨cR, rfl⟩ : ∃ c, c = c' := ⟨_, rfl⟩
            refine wpAny_ready (rs := [4, 10]) (by kernel_rfl) (by simp) ?_
            refine (AllReady.cons rfl (fun K hK => ?_) (AllReady.cons rfl (fun K hK => ?_) AllReady.nil))
            · skip
              refine step_appendG rfl _ _ 22 rfl W0.heap.size 3 Try.underlying22 infoInt gR cR zs.length zs (.slice a3 zs3.length c3) zs3 rfl rfl (zs.length + zs3.length) rfl OR.out (HY.out _ Yx3.out) (by omega) Yx3.out.size ?_
              intro g' c' x4 hg' o' b' k'
              have Yx4 : Hid (Below W0.heap.size W0 x4) := hidI (Yx3.out.trans b')
              have OR := hidI o'
              refine hK _ _ ?_; clear hK K o' b' k'
              change wpAny _ _ _ _ _ _ (Act.put _ (some 69) _) _
              simp only [Act.put, List.setIfInBounds_toArray, List.set_cons_zero, List.set_cons_succ]
              obtain ⟨gR, rfl⟩ : ∃ g, g = g' := ⟨_, rfl⟩
              obtain ⟨cR, rfl⟩ : ∃ c, c = c' := ⟨_, rfl⟩
              refine wpAny_ready (rs := [10]) (by kernel_rfl) (by simp) ?_
              refine (AllReady.cons rfl (fun K hK => ?_) AllReady.nil)
              go_simp
              refine hK _ _ ?_; clear hK K
              obtain ⟨x5, hW⟩ : ∃ x, x = World.alloc x4 (.cells #[.int .i64 9] 3) := ⟨_, rfl⟩
              rw [← hW]
              obtain ⟨gC, hgg⟩ : ∃ g, g = x4.heap.size := ⟨_, rfl⟩
              rw [← hgg]
              have hsz : x4.heap.size < x5.heap.size := by rw [hW]; simp
              have Yx5 : Hid (Below W0.heap.size W0 x5) := hidI (by rw [hW]; exact Yx4.out.alloc Yx4.out.size _)
              have ORp := OR
              have OR : Hid (World.ownsRow x5 W0.heap.size 3 1 (.slice (some ⟨gR, 0, none⟩) (zs.length + zs3.length) cR) (zs.length + zs3.length) (List.map (Value.int .i64) (zs ++ zs3))) := hidI (by rw [hW]; exact OR.out.alloc _)
              have CC : Hid (x5.cell? ⟨gC, 0, none⟩ = some (.int .i64 9)) := hidI (by rw [hW]; exact cell_at hgg rfl)
              have hcl : gC < x5.heap.size := by omega
              have hnc : gC ≠ gR := by have h2 := (own_info ORp.out).2; omega
              clear hgg hW
              refine wpAny_ready (rs := [11]) (by kernel_rfl) (by simp) ?_
              refine (AllReady.cons rfl (fun K hK => ?_) AllReady.nil)
              refine step_pushK rfl _ _ 22 rfl W0.heap.size 3 (.int .i64 0) 8 Try.underlying22 infoInt rfl (.slice (some ⟨gR, 0, none⟩) (zs.length + zs3.length) cR) (zs.length + zs3.length) ((zs ++ zs3).map (Value.int .i64)) (.int .i64 9) gC rfl rfl OR.out CC.out rfl (by omega) (by decide) Yx5.out.size ?_
              intro g' c' x6 hg' o' b' k'
              have Yx6 : Hid (Below W0.heap.size W0 x6) := hidI (Yx5.out.trans b')
              have OR := hidI o'
              refine hK _ _ ?_; clear hK K o' b' k'
              change wpAny _ _ _ _ _ _ (Act.put _ (some 76) _) _
              simp only [Act.put, List.setIfInBounds_toArray, List.set_cons_zero, List.set_cons_succ]
              refine take_at (i := 12) (v := ?_) 11 rfl rfl (by kernel_rfl) (by kernel_rfl) (by kernel_rfl) (fun _ _ _ h => h) (Or.inl ⟨by rfl, ?_⟩) ?_
              rotate_left
              · intro w; go_simp; try with_reducible rfl
              (try simp only [Act.put, List.setIfInBounds_toArray, List.set_cons_zero, List.set_cons_succ])
              refine wpAny_done (by kernel_rfl) ?_ _
              go_wp2_with fail
              refine ⟨?rel, ?measure⟩
              case rel => exact ⟨zs ++ zs3 ++ [9], k3, ok3, some ⟨g', 0, none⟩, c', by simp [Nat.add_assoc], rfl, rfl, by simp only [List.length_append, List.length_cons, List.length_nil]; omega, s3, hidI (by have := own_base OR.out HW0L; simpa [Nat.add_assoc] using this), IALL, hidI (bthen B3.out (W0b.out.trans (Yx6.out.mono (Nat.le_of_eq HW0S.out)))), T3, N3⟩
              case measure => simp [intOf]; omega
            · skip
              go_simp
              refine hK _ _ ?_; clear hK K
              obtain ⟨x4, hW⟩ : ∃ x, x = World.alloc x3 (.cells #[.int .i64 9] 3) := ⟨_, rfl⟩
              rw [← hW]
              obtain ⟨gC, hgg⟩ : ∃ g, g = x3.heap.size := ⟨_, rfl⟩
              rw [← hgg]
              have hsz : x3.heap.size < x4.heap.size := by rw [hW]; simp
              have Yx4 : Hid (Below W0.heap.size W0 x4) := hidI (by rw [hW]; exact Yx3.out.alloc Yx3.out.size _)
              have ORp := OR
              have OR : Hid (World.ownsRow x4 W0.heap.size 3 1 (.slice (some ⟨gR, 0, none⟩) zs.length cR) zs.length (List.map (Value.int .i64) zs)) := hidI (by rw [hW]; exact OR.out.alloc _)
              have CC : Hid (x4.cell? ⟨gC, 0, none⟩ = some (.int .i64 9)) := hidI (by rw [hW]; exact cell_at hgg rfl)
              have hcl : gC < x4.heap.size := by omega
              have hnc : gC ≠ gR := by have h2 := (own_info ORp.out).2; omega
              clear hgg hW
              refine wpAny_ready (rs := [4]) (by kernel_rfl) (by simp) ?_
              refine (AllReady.cons rfl (fun K hK => ?_) AllReady.nil)
              refine step_appendG rfl _ _ 22 rfl W0.heap.size 3 Try.underlying22 infoInt gR cR zs.length zs (.slice a3 zs3.length c3) zs3 rfl rfl (zs.length + zs3.length) rfl OR.out (HY.out _ Yx4.out) (by omega) Yx4.out.size ?_
              intro g' c' x5 hg' o' b' k'
              have Yx5 : Hid (Below W0.heap.size W0 x5) := hidI (Yx4.out.trans b')
              have kk := k'.2 gC hcl (fun e => hnc (by injection e with e; exact e.symm))
              have hcc : x5.cell? ⟨gC, 0, none⟩ = some (.int .i64 9) := kk.2 _ _ CC.out
              have hnc : gC ≠ g' := kk.1
              have hcl : gC < x5.heap.size := cell_lt hcc
              have CC := hidI hcc; clear hcc
              have OR := hidI o'
              refine hK _ _ ?_; clear hK K o' b' k' kk
              change wpAny _ _ _ _ _ _ (Act.put _ (some 69) _) _
              simp only [Act.put, List.setIfInBounds_toArray, List.set_cons_zero, List.set_cons_succ]
              obtain ⟨gR, rfl⟩ : ∃ g, g = g' := ⟨_, rfl⟩
              obtain ⟨cR, rfl⟩ : ∃ c, c = c' := ⟨_, rfl⟩
              refine wpAny_ready (rs := [11]) (by kernel_rfl) (by simp) ?_
              refine (AllReady.cons rfl (fun K hK => ?_) AllReady.nil)
              refine step_pushK rfl _ _ 22 rfl W0.heap.size 3 (.int .i64 0) 8 Try.underlying22 infoInt rfl (.slice (some ⟨gR, 0, none⟩) (zs.length + zs3.length) cR) (zs.length + zs3.length) ((zs ++ zs3).map (Value.int .i64)) (.int .i64 9) gC rfl rfl OR.out CC.out rfl (by omega) (by decide) Yx5.out.size ?_
              intro g' c' x6 hg' o' b' k'
              have Yx6 : Hid (Below W0.heap.size W0 x6) := hidI (Yx5.out.trans b')
              have OR := hidI o'
              refine hK _ _ ?_; clear hK K o' b' k'
              change wpAny _ _ _ _ _ _ (Act.put _ (some 76) _) _
              simp only [Act.put, List.setIfInBounds_toArray, List.set_cons_zero, List.set_cons_succ]
              refine take_at (i := 12) (v := ?_) 11 rfl rfl (by kernel_rfl) (by kernel_rfl) (by kernel_rfl) (fun _ _ _ h => h) (Or.inl ⟨by rfl, ?_⟩) ?_
              rotate_left
              · intro w; go_simp; try with_reducible rfl
              (try simp only [Act.put, List.setIfInBounds_toArray, List.set_cons_zero, List.set_cons_succ])
              refine wpAny_done (by kernel_rfl) ?_ _
              go_wp2_with fail
              refine ⟨?rel, ?measure⟩
              case rel => exact ⟨zs ++ zs3 ++ [9], k3, ok3, some ⟨g', 0, none⟩, c', by simp [Nat.add_assoc], rfl, rfl, by simp only [List.length_append, List.length_cons, List.length_nil]; omega, s3, hidI (by have := own_base OR.out HW0L; simpa [Nat.add_assoc] using this), IALL, hidI (bthen B3.out (W0b.out.trans (Yx6.out.mono (Nat.le_of_eq HW0S.out)))), T3, N3⟩
              case measure => simp [intOf]; omega
          · skip
            go_simp
            refine hK _ _ ?_; clear hK K
            obtain ⟨x3, hW⟩ : ∃ x, x = World.alloc x2 (.cells #[.int .i64 9] 3) := ⟨_, rfl⟩
            rw [← hW]
            obtain ⟨gC, hgg⟩ : ∃ g, g = x2.heap.size := ⟨_, rfl⟩
            rw [← hgg]
            have hsz : x2.heap.size < x3.heap.size := by rw [hW]; simp
            have Yx3 : Hid (Below W0.heap.size W0 x3) := hidI (by rw [hW]; exact Yx2.out.alloc Yx2.out.size _)
            have ORp := OR
            have OR : Hid (World.ownsRow x3 W0.heap.size 3 1 (.slice (some ⟨gR, 0, none⟩) 0 cR) 0 (List.map (Value.int .i64) [])) := hidI (by rw [hW]; exact OR.out.alloc _)
            have CC : Hid (x3.cell? ⟨gC, 0, none⟩ = some (.int .i64 9)) := hidI (by rw [hW]; exact cell_at hgg rfl)
            have hcl : gC < x3.heap.size := by omega
            have hnc : gC ≠ gR := by have h2 := (own_info ORp.out).2; omega
            clear hgg hW
            refine wpAny_ready (rs := [2]) (by kernel_rfl) (by simp) ?_
            refine (AllReady.cons rfl (fun K hK => ?_) AllReady.nil)
            refine step_appendK rfl _ _ 22 rfl W0.heap.size 3 Try.underlying22 infoInt (.slice (some ⟨gR, 0, none⟩) 0 cR) 0 [] (.slice a zs.length c) zs rfl rfl zs.length (Nat.zero_add _) OR.out (HX.out _ Yx3.out) hz1 (by omega) Yx3.out.size ?_
            intro g' c' x4 hg' o' b' k'
            have Yx4 : Hid (Below W0.heap.size W0 x4) := hidI (Yx3.out.trans b')
            have kk := k'.2 gC hcl (fun e => hnc (by injection e with e; exact e.symm))
            have hcc : x4.cell? ⟨gC, 0, none⟩ = some (.int .i64 9) := kk.2 _ _ CC.out
            have hnc : gC ≠ g' := kk.1
            have hcl : gC < x4.heap.size := cell_lt hcc
            have CC := hidI hcc; clear hcc
            have OR := hidI o'
            refine hK _ _ ?_; clear hK K o' b' k' kk
            change wpAny _ _ _ _ _ _ (Act.put _ (some 67) _) _
            simp only [Act.put, List.setIfInBounds_toArray, List.set_cons_zero, List.set_cons_succ]
            obtain ⟨gR, rfl⟩ : ∃ g, g = g' := ⟨_, rfl⟩
            obtain ⟨cR, rfl⟩ : ∃ c, c = c' := ⟨_, rfl⟩
            refine wpAny_ready (rs := [4]) (by kernel_rfl) (by simp) ?_
            refine (AllReady.cons rfl (fun K hK => ?_) AllReady.nil)
            refine step_appendG rfl _ _ 22 rfl W0.heap.size 3 Try.underlying22 infoInt gR cR zs.length zs (.slice a3 zs3.length c3) zs3 rfl rfl (zs.length + zs3.length) rfl OR.out (HY.out _ Yx4.out) (by omega) Yx4.out.size ?_
            intro g' c' x5 hg' o' b' k'
            have Yx5 : Hid (Below W0.heap.size W0 x5) := hidI (Yx4.out.trans b')
            have kk := k'.2 gC hcl (fun e => hnc (by injection e with e; exact e.symm))
            have hcc : x5.cell? ⟨gC, 0, none⟩ = some (.int .i64 9) := kk.2 _ _ CC.out
            have hnc : gC ≠ g' := kk.1
            have hcl : gC < x5.heap.size := cell_lt hcc
            have CC := hidI hcc; clear hcc
            have OR := hidI o'
            refine hK _ _ ?_; clear hK K o' b' k' kk
            change wpAny _ _ _ _ _ _ (Act.put _ (some 69) _) _
            simp only [Act.put, List.setIfInBounds_toArray, List.set_cons_zero, List.set_cons_succ]
            obtain ⟨gR, rfl⟩ : ∃ g, g = g' := ⟨_, rfl⟩
            obtain ⟨cR, rfl⟩ : ∃ c, c = c' := ⟨_, rfl⟩
            refine wpAny_ready (rs := [11]) (by kernel_rfl) (by simp) ?_
            refine (AllReady.cons rfl (fun K hK => ?_) AllReady.nil)
            refine step_pushK rfl _ _ 22 rfl W0.heap.size 3 (.int .i64 0) 8 Try.underlying22 infoInt rfl (.slice (some ⟨gR, 0, none⟩) (zs.length + zs3.length) cR) (zs.length + zs3.length) ((zs ++ zs3).map (Value.int .i64)) (.int .i64 9) gC rfl rfl OR.out CC.out rfl (by omega) (by decide) Yx5.out.size ?_
            intro g' c' x6 hg' o' b' k'
            have Yx6 : Hid (Below W0.heap.size W0 x6) := hidI (Yx5.out.trans b')
            have OR := hidI o'
            refine hK _ _ ?_; clear hK K o' b' k'
            change wpAny _ _ _ _ _ _ (Act.put _ (some 76) _) _
            simp only [Act.put, List.setIfInBounds_toArray, List.set_cons_zero, List.set_cons_succ]
            refine take_at (i := 12) (v := ?_) 11 rfl rfl (by kernel_rfl) (by kernel_rfl) (by kernel_rfl) (fun _ _ _ h => h) (Or.inl ⟨by rfl, ?_⟩) ?_
            rotate_left
            · intro w; go_simp; try with_reducible rfl
            (try simp only [Act.put, List.setIfInBounds_toArray, List.set_cons_zero, List.set_cons_succ])
            refine wpAny_done (by kernel_rfl) ?_ _
            go_wp2_with fail
            refine ⟨?rel, ?measure⟩
            case rel => exact ⟨zs ++ zs3 ++ [9], k3, ok3, some ⟨g', 0, none⟩, c', by simp [Nat.add_assoc], rfl, rfl, by simp only [List.length_append, List.length_cons, List.length_nil]; omega, s3, hidI (by have := own_base OR.out HW0L; simpa [Nat.add_assoc] using this), IALL, hidI (bthen B3.out (W0b.out.trans (Yx6.out.mono (Nat.le_of_eq HW0S.out)))), T3, N3⟩
            case measure => simp [intOf]; omega
        · skip
          go_simp
          refine hK _ _ ?_; clear hK K
          obtain ⟨x2, hW⟩ : ∃ x, x = World.alloc x1 (.cells #[.int .i64 9] 3) := ⟨_, rfl⟩
          rw [← hW]
          obtain ⟨gC, hgg⟩ : ∃ g, g = x1.heap.size := ⟨_, rfl⟩
          rw [← hgg]
          have hsz : x1.heap.size < x2.heap.size := by rw [hW]; simp
          have Yx2 : Hid (Below W0.heap.size W0 x2) := hidI (by rw [hW]; exact Yx1.out.alloc Yx1.out.size _)
          have CC : Hid (x2.cell? ⟨gC, 0, none⟩ = some (.int .i64 9)) := hidI (by rw [hW]; exact cell_at hgg rfl)
          have hcl : gC < x2.heap.size := by omega
          clear hgg hW
          refine wpAny_ready (rs := [0]) (by kernel_rfl) (by simp) ?_
          refine (AllReady.cons rfl (fun K hK => ?_) AllReady.nil)
          go_simp
          refine hK _ _ ?_; clear hK K
          obtain ⟨x3, hW⟩ : ∃ x, x = World.alloc x2 (.cells #[] 3) := ⟨_, rfl⟩
          rw [← hW]
          obtain ⟨gR, hgg⟩ : ∃ g, g = x2.heap.size := ⟨_, rfl⟩
          rw [← hgg]
          have hsz : x2.heap.size < x3.heap.size := by rw [hW]; simp
          have Yx3 : Hid (Below W0.heap.size W0 x3) := hidI (by rw [hW]; exact Yx2.out.alloc Yx2.out.size _)
          have CC : Hid (x3.cell? ⟨gC, 0, none⟩ = some (.int .i64 9)) := hidI (by rw [hW]; exact cell_old hcl CC.out)
          have hcl : gC < x3.heap.size := by omega
          obtain ⟨cR, hcR⟩ : ∃ c, c = 0 := ⟨_, rfl⟩
          have OR : Hid (World.ownsRow x3 W0.heap.size 3 1 (.slice (some ⟨gR, 0, none⟩) 0 cR) 0 (List.map (Value.int .i64) [])) := hidI (by rw [hW, hcR]; exact own_made hgg Yx2.out.size _)
          have hnc : gC ≠ gR := by omega
          have hcR2 : (Value.slice (some ⟨gR, 0, none⟩) 0 0) = Value.slice (some ⟨gR, 0, none⟩) 0 cR := by rw [hcR]
          rw [hcR2]; clear hcR2 hcR hgg hW
          refine wpAny_ready (rs := [2]) (by kernel_rfl) (by simp) ?_
          refine (AllReady.cons rfl (fun K hK => ?_) AllReady.nil)
          refine step_appendK rfl _ _ 22 rfl W0.heap.size 3 Try.underlying22 infoInt (.slice (some ⟨gR, 0, none⟩) 0 cR) 0 [] (.slice a zs.length c) zs rfl rfl zs.length (Nat.zero_add _) OR.out (HX.out _ Yx3.out) hz1 (by omega) Yx3.out.size ?_
          intro g' c' x4 hg' o' b' k'
          have Yx4 : Hid (Below W0.heap.size W0 x4) := hidI (Yx3.out.trans b')
          have kk := k'.2 gC hcl (fun e => hnc (by injection e with e; exact e.symm))
          have hcc : x4.cell? ⟨gC, 0, none⟩ = some (.int .i64 9) := kk.2 _ _ CC.out
          have hnc : gC ≠ g' := kk.1
          have hcl : gC < x4.heap.size := cell_lt hcc
          have CC := hidI hcc; clear hcc
          have OR := hidI o'
          refine hK _ _ ?_; clear hK K o' b' k' kk
          change wpAny _ _ _ _ _ _ (Act.put _ (some 67) _) _
          simp only [Act.put, List.setIfInBounds_toArray, List.set_cons_zero, List.set_cons_succ]
          obtain ⟨gR, rfl⟩ : ∃ g, g = g' := ⟨_, rfl⟩
          obtain ⟨cR, rfl⟩ : ∃ c, c = c' := ⟨_, rfl⟩
          refine wpAny_ready (rs := [4]) (by kernel_rfl) (by simp) ?_
          refine (AllReady.cons rfl (fun K hK => ?_) AllReady.nil)
          refine step_appendG rfl _ _ 22 rfl W0.heap.size 3 Try.underlying22 infoInt gR cR zs.length zs (.slice a3 zs3.length c3) zs3 rfl rfl (zs.length + zs3.length) rfl OR.out (HY.out _ Yx4.out) (by omega) Yx4.out.size ?_
          intro g' c' x5 hg' o' b' k'
          have Yx5 : Hid (Below W0.heap.size W0 x5) := hidI (Yx4.out.trans b')
          have kk := k'.2 gC hcl (fun e => hnc (by injection e with e; exact e.symm))
          have hcc : x5.cell? ⟨gC, 0, none⟩ = some (.int .i64 9) := kk.2 _ _ CC.out
          have hnc : gC ≠ g' := kk.1
          have hcl : gC < x5.heap.size := cell_lt hcc
          have CC := hidI hcc; clear hcc
          have OR := hidI o'
          refine hK _ _ ?_; clear hK K o' b' k' kk
          change wpAny _ _ _ _ _ _ (Act.put _ (some 69) _) _
          simp only [Act.put, List.setIfInBounds_toArray, List.set_cons_zero, List.set_cons_succ]
          obtain ⟨gR, rfl⟩ : ∃ g, g = g' := ⟨_, rfl⟩
          obtain ⟨cR, rfl⟩ : ∃ c, c = c' := ⟨_, rfl⟩
          refine wpAny_ready (rs := [11]) (by kernel_rfl) (by simp) ?_
          refine (AllReady.cons rfl (fun K hK => ?_) AllReady.nil)
          refine step_pushK rfl _ _ 22 rfl W0.heap.size 3 (.int .i64 0) 8 Try.underlying22 infoInt rfl (.slice (some ⟨gR, 0, none⟩) (zs.length + zs3.length) cR) (zs.length + zs3.length) ((zs ++ zs3).map (Value.int .i64)) (.int .i64 9) gC rfl rfl OR.out CC.out rfl (by omega) (by decide) Yx5.out.size ?_
          intro g' c' x6 hg' o' b' k'
          have Yx6 : Hid (Below W0.heap.size W0 x6) := hidI (Yx5.out.trans b')
          have OR := hidI o'
          refine hK _ _ ?_; clear hK K o' b' k'
          change wpAny _ _ _ _ _ _ (Act.put _ (some 76) _) _
          simp only [Act.put, List.setIfInBounds_toArray, List.set_cons_zero, List.set_cons_succ]
          refine take_at (i := 12) (v := ?_) 11 rfl rfl (by kernel_rfl) (by kernel_rfl) (by kernel_rfl) (fun _ _ _ h => h) (Or.inl ⟨by rfl, ?_⟩) ?_
          rotate_left
          · intro w; go_simp; try with_reducible rfl
          (try simp only [Act.put, List.setIfInBounds_toArray, List.set_cons_zero, List.set_cons_succ])
          refine wpAny_done (by kernel_rfl) ?_ _
          go_wp2_with fail
          refine ⟨?rel, ?measure⟩
          case rel => exact ⟨zs ++ zs3 ++ [9], k3, ok3, some ⟨g', 0, none⟩, c', by simp [Nat.add_assoc], rfl, rfl, by simp only [List.length_append, List.length_cons, List.length_nil]; omega, s3, hidI (by have := own_base OR.out HW0L; simpa [Nat.add_assoc] using this), IALL, hidI (bthen B3.out (W0b.out.trans (Yx6.out.mono (Nat.le_of_eq HW0S.out)))), T3, N3⟩
          case measure => simp [intOf]; omega
end Go.Proofs.Ytndbfdgflflfpaa
