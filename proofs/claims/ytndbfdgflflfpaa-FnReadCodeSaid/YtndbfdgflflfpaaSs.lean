/- The reference's reader of codes: what binds most; ReadCode of the reference. -/
import Derived.Test.YtndbfdgflflfpaaSr1
import Derived.Test.YtndbfdgflflfpaaCdV
import Derived.Outline
namespace Go.Proofs.Ytndbfdgflflfpaa
open Go.RowKit

set_option maxRecDepth 100000 in
set_option maxHeartbeats 1000000 in
theorem spec_great3 (s : ByteArray) (f k : Nat) (D : Int) (w : World)
    (h : Calls Try.prog 63 #[.string s, .int .i64 (k : Int), .int .i64 D] w (Give3 w s k (small f ((bs s).drop k)))) :
    Calls Try.prog 36 #[.string s, .int .i64 (k : Int), .int .i64 3, .int .i64 D] w (Give3 w s k (small f ((bs s).drop k))) := by
  have H := hidI h; clear h
  go_enter Try.func36, Try.ntmps36
  go_wp2_with fail
  refine H.out.mono ?_; rintro e w1 ⟨v, zs, k1, ok, rfl, o1, i1, l1, s1, b1, t1, n1⟩
  have O1 := hidI o1; have I1 := hidI i1; have B1 := hidI b1; have T1 := hidI t1; have N1 := hidI n1
  clear o1 i1 b1 t1 n1
  go_wp2_with fail
  go_ret3
  exact ⟨_, zs, k1, ok, rfl, O1.out, I1.out, l1, s1, B1.out, T1.out, N1.out⟩

theorem spec_great (s : ByteArray) (hs : s.size ≤ 1000) (f : Nat) (D k0 : Nat) (hD : D ≤ 191)
    (HP : ∀ k w, k0 ≤ k → k ≤ s.size → Calls Try.prog 63 #[.string s, .int .i64 (k : Int), .int .i64 (D : Int)] w (Give3 w s k (small f ((bs s).drop k)))) (k : Nat) (w : World) (hk0 : k0 ≤ k) (hk : k ≤ s.size) :
    Calls Try.prog 36 #[.string s, .int .i64 (k : Int), .int .i64 1, .int .i64 (D : Int)] w (Give3 w s k (whole f ((bs s).drop k))) :=
  spec_great1 s hs (mid f) (mid_good f) D k0 hD (spec_great2 s hs (small f) (small_good f) D k0 hD (fun k w h1 h2 => spec_great3 s f k D w (HP k w h1 h2))) k w hk0 hk

theorem made_ints (w : World) (xs : List Int) (hl : xs.length ≤ 1000) : (w.alloc (.cells (xs.map (Value.int .i64)).toArray 3)).ownsRow w.heap.size 3 1 (.slice (some ⟨w.heap.size, 0, none⟩) xs.length xs.length) xs.length (xs.map (Value.int .i64)) :=
  ⟨by simp, .inr ⟨w.heap.size, xs.length, (xs.map (Value.int .i64)).toArray, rfl, Nat.le_refl _, heap_alloc_new w _, Nat.le_refl _, by unfold maxLen; omega, by simp, by rw [List.take_of_length_le (by simp)]⟩⟩

set_option maxRecDepth 100000 in
set_option maxHeartbeats 4000000 in
theorem spec_small (s : ByteArray) (hs : s.size ≤ 1000) : ∀ (f k : Nat) (D : Nat) (w : World), f + D = 191 → k ≤ s.size →
    Calls Try.prog 63 #[.string s, .int .i64 (k : Int), .int .i64 (D : Int)] w (Give3 w s k (small f ((bs s).drop k)))
  | 0, k, D, w, hD, hk => by
    obtain rfl : D = 191 := by omega
    have M := hidI (made_ints w [] (by decide))
    have B := hidI ((Below.refl w.heap.size w).alloc (Nat.le_refl _) (.cells #[] 3))
    by_cases hks : k < s.size
    · have h1 : ¬ (s.size : Int) ≤ (k : Int) := by omega
      go_enter Try.func63, Try.ntmps63
      go_wp2_with fail
      go_ret3
      exact ⟨_, [], k, false, rfl, M.out, by simp, by simp, hk, B.out, fun h => (by cases h), fun _ => rfl⟩
    · have h1 : (s.size : Int) ≤ (k : Int) := by omega
      go_enter Try.func63, Try.ntmps63
      go_wp2_with fail
      go_ret3
      exact ⟨_, [], k, false, rfl, M.out, by simp, by simp, hk, B.out, fun h => (by cases h), fun _ => rfl⟩
  | f + 1, k, D, w, hD, hk => by
    have hd : ¬ (190 : Int) < (D : Int) := by omega
    have hd2 : (D : Int) ≤ 190 := by omega
    have M := hidI (made_ints w)
    have B := hidI (fun xs => (Below.refl w.heap.size w).alloc (Nat.le_refl _) (.cells xs 3))
    by_cases hks : k < s.size
    rotate_left
    · have h1 : (s.size : Int) ≤ (k : Int) := by omega
      have HN : Hid (small (f + 1) ((bs s).drop k) = none) := hidI (by rw [List.drop_eq_nil_of_le (by rw [bs_len]; omega)]; rfl)
      go_enter Try.func63, Try.ntmps63
      go_wp2_with fail
      go_ret3
      exact ⟨_, [], k, false, rfl, M.out [] (by decide), by simp, by simp, hk, B.out _, fun h => (by cases h), fun _ => HN.out⟩
    have h1 : (k : Int) < (s.size : Int) := by omega
    have hget := bs_get s k hks
    have HD := hidI (drop_bs hget).1
    have hs1 : (k : Int) + 1 ≤ 1000 := by omega
    have hc256 : s[k].toNat < 256 := s[k].toNat_lt
    have IH := hidI (fun k w => spec_small s hs f k (D + 1) w (by omega))
    have IG := hidI (fun k w => spec_great s hs f (D + 1) k (by omega) (fun k w h1 h2 => IH.out k w h2) k w (Nat.le_refl _))
    have HC256 := hidI hc256; clear hc256 hget
    have leafs : ∀ (z : Int) (v : Value) (w1 : World), leafOf s[k].toNat = some z → w1.ownsRow w.heap.size 3 1 v 1 [.int .i64 z] → I64 z → Below w.heap.size w w1 → Give3 w s k (small (f + 1) ((bs s).drop k)) (.returned (.tuple #[v, .int .i64 ((k : Int) + 1), .bool true])) w1 := fun z v w1 hl ho hz hb =>
      ⟨v, [z], k + 1, true, by go_num, ho, by intro y hy; rw [List.mem_singleton.1 hy]; exact hz, by simp; omega, by omega, hb, fun _ => ⟨.one z, by rw [HD.out]; exact small_leaf hl, rfl⟩, fun h => by cases h⟩
    have LF := hidI leafs; clear leafs
    by_cases h97 : 97 ≤ s[k].toNat ∧ s[k].toNat < 102
    · obtain ⟨h97, h102⟩ := h97
      have LL := hidI (show leafOf s[k].toNat = some ((s[k].toNat : Int) - 97) by unfold leafOf; rw [if_pos ⟨h97, h102⟩])
      have HI := hidI (show I64 ((s[k].toNat : Int) - 97) by unfold I64; omega)
      have h97i : (97 : Int) ≤ (s[k].toNat : Int) := by omega
      have h102i : (s[k].toNat : Int) < 102 := by omega
      go_enter Try.func63, Try.ntmps63
      go_wp2_with fail
      go_ret3
      exact LF.out _ _ _ LL.out (M.out [(s[k].toNat : Int) - 97] (by simp)) HI.out (B.out _)
    by_cases h49 : s[k].toNat = 49
    · have LL := hidI (show leafOf s[k].toNat = some 5 by rw [h49]; rfl)
      have q := hidI h49
      have t1 : ((s[k].toNat : Int) == 49) = true := by simp; omega
      have t0 : (s[k].toNat : Int) < 97 := by omega
      clear h49 h97
      go_enter Try.func63, Try.ntmps63
      go_wp2_with fail
      go_ret3
      exact LF.out _ _ _ LL.out (M.out [5] (by simp)) (by unfold I64; omega) (B.out _)
    have t49 : ((s[k].toNat : Int) == 49) = false := by simp; omega
    by_cases h48 : s[k].toNat = 48
    · have LL := hidI (show leafOf s[k].toNat = some 6 by rw [h48]; rfl)
      have t1 : ((s[k].toNat : Int) == 48) = true := by simp; omega
      have t0 : (s[k].toNat : Int) < 97 := by omega
      clear h48 h97
      go_enter Try.func63, Try.ntmps63
      go_wp2_with fail
      go_ret3
      exact LF.out _ _ _ LL.out (M.out [6] (by simp)) (by unfold I64; omega) (B.out _)
    have t48 : ((s[k].toNat : Int) == 48) = false := by simp; omega
    by_cases h33 : s[k].toNat = 33
    · have t1 : ((s[k].toNat : Int) == 33) = true := by simp; omega
      have t0 : (s[k].toNat : Int) < 97 := by omega
      rw [h33] at HD
      clear h33 h97
      go_enter Try.func63, Try.ntmps63
      go_wp2_with fail
      refine (IH.out (k + 1) w (by omega)).mono ?_; rintro e w1 ⟨v, zs, k1, ok, rfl, o1, i1, l1, s1, b1, t1, n1⟩
      obtain ⟨a1, c1, hv1⟩ := own_slice o1
      subst hv1
      have IX := hidI (fun W (hW : Below w1.heap.size w1 W) => (IntS.ofOwn o1 i1).2.below hW)
      have I1 := hidI i1; have B1 := hidI b1
      have T1 : Hid (ok = true → ∃ t, small (f + 1) ((bs s).drop k) = some (t, (bs s).drop k1) ∧ zs ++ [7] = t.steps) := hidI (fun h => by
        obtain ⟨t, e1, e2⟩ := t1 h
        exact ⟨.neg t, by rw [HD.out, small_not, e1], by rw [e2]; rfl⟩)
      have N1 : Hid (ok = false → small (f + 1) ((bs s).drop k) = none) := hidI (fun h => by rw [HD.out, small_not, n1 h])
      have hz : w.heap.size ≤ w1.heap.size := B1.out.size
      have OM : Hid ((w1.alloc (.cells #[] 3)).ownsRow w.heap.size 3 1 (.slice (some ⟨w1.heap.size, 0, none⟩) 0 0) 0 (([] : List Int).map (Value.int .i64))) := hidI (own_made rfl hz _)
      have BM := hidI (B1.out.alloc hz (.cells #[] 3))
      have hz2 : w.heap.size ≤ (w1.alloc (.cells #[] 3)).heap.size := BM.out.size
      clear o1 i1 b1 t1 n1
      go_wp2_with (at_builtin; refine wpList_appendS _ rfl _ _ 22 rfl w.heap.size 3 Try.underlying22 infoInt (.slice (some ⟨w1.heap.size, 0, none⟩) 0 0) 0 [] (.slice a1 zs.length c1) zs rfl rfl OM.out (IX.out _ ((Below.refl _ _).alloc (Nat.le_refl _) _)) (by omega) hz2 ?_)
      intro v' w2 o2 b2 g2 hn2
      obtain ⟨a2, c2, hv2⟩ := own_slice o2
      subst hv2
      have O2 := hidI (by simpa using o2 : w2.ownsRow w.heap.size 3 1 (.slice a2 zs.length c2) zs.length (zs.map (Value.int .i64)))
      have B2 := hidI (b2 _ BM.out)
      have hz3 : w.heap.size ≤ w2.heap.size := B2.out.size
      (try simp only [Nat.zero_add])
      clear o2 b2 g2 hn2
      go_wp2_with (at_builtin; refine wpList_push _ rfl _ _ 22 rfl w.heap.size 3 (.int .i64 0) 8 Try.underlying22 infoInt rfl (.slice a2 zs.length c2) zs.length (zs.map (Value.int .i64)) _ rfl rfl O2.out rfl (by omega) (by decide) hz3 ?_)
      intro g6 c6 w6 hg6 o6 b6 gr6
      have B6 := hidI (b6 _ B2.out)
      have O6 := hidI o6; clear o6 b6 gr6
      go_wp2_with fail
      go_ret3
      refine ⟨_, zs ++ [7], k1, ok, rfl, ?_, ?_, by simp; omega, s1, B6.out, T1.out, N1.out⟩
      · have := O6.out; simpa using this
      · intro z hz
        rcases List.mem_append.1 hz with hz | hz
        · exact I1.out z hz
        · simp at hz; subst hz; unfold I64; omega
    have t33 : ((s[k].toNat : Int) == 33) = false := by simp; omega
    by_cases h40 : s[k].toNat = 40
    · have t1 : ((s[k].toNat : Int) == 40) = true := by simp; omega
      have t0 : (s[k].toNat : Int) < 97 := by omega
      rw [h40] at HD
      clear h40 h97 h33 h48 h49
      go_enter Try.func63, Try.ntmps63
      go_wp2_with fail
      refine (IG.out (k + 1) w (by omega)).mono ?_; rintro e w1 ⟨v, zs, k1, ok, rfl, o1, i1, l1, s1, b1, t1, n1⟩
      have hz : w.heap.size ≤ w1.heap.size := b1.size
      have OM : Hid ((w1.alloc (.cells #[] 3)).ownsRow w.heap.size 3 1 (.slice (some ⟨w1.heap.size, 0, none⟩) 0 0) 0 (([] : List Int).map (Value.int .i64))) := hidI (own_made rfl hz _)
      have BM := hidI (b1.alloc hz (.cells #[] 3))
      have O1 := hidI o1; have I1 := hidI i1; have B1 := hidI b1
      cases ok
      · have N1 := hidI (n1 rfl)
        clear o1 i1 b1 t1 n1
        go_wp2_with fail
        go_ret3
        exact ⟨_, [], k1, false, rfl, OM.out, by simp, by simp; omega, s1, BM.out, fun h => (by cases h), fun _ => by rw [HD.out, small_par, N1.out]⟩
      have T1 := hidI (t1 rfl)
      clear o1 i1 b1 t1 n1
      by_cases hk1 : k1 < s.size
      rotate_left
      · have hge : (s.size : Int) ≤ (k1 : Int) := by omega
        go_wp2_with fail
        go_ret3
        refine ⟨_, [], k1, false, rfl, OM.out, by simp, by simp; omega, s1, BM.out, fun h => (by cases h), fun _ => ?_⟩
        obtain ⟨t, e1, e2⟩ := T1.out
        rw [HD.out, small_par, e1, List.drop_eq_nil_of_le (by rw [bs_len]; omega)]
      have hlt : (k1 : Int) < (s.size : Int) := by omega
      have hnlt : ¬ (s.size : Int) ≤ (k1 : Int) := by omega
      by_cases hc : s[k1].toNat = 41
      · have hcb : ((s[k1].toNat : Int) != 41) = false := by simp; omega
        have HDR : Hid ((bs s).drop k1 = 41 :: (bs s).drop (k1 + 1)) := hidI (drop_bs (by rw [bs_get s k1 hk1, hc])).1
        clear hc
        go_wp2_with fail
        go_ret3
        refine ⟨_, zs, k1 + 1, true, by go_num, O1.out, I1.out, by omega, by omega, B1.out, fun _ => ?_, fun h => (by cases h)⟩
        obtain ⟨t, e1, e2⟩ := T1.out
        exact ⟨t, by rw [HD.out, small_par, e1, HDR.out]; rfl, e2⟩
      · have hcb : ((s[k1].toNat : Int) != 41) = true := by simp; omega
        have HC := hidI hc; clear hc
        go_wp2_with fail
        go_ret3
        refine ⟨_, [], k1, false, rfl, OM.out, by simp, by simp; omega, s1, BM.out, fun h => (by cases h), fun _ => ?_⟩
        obtain ⟨t, e1, e2⟩ := T1.out
        rw [HD.out, small_par, e1]
        split
        · rename_i t' r' e
          injection e with e; injection e with _ e
          exfalso
          apply HC.out
          have h2 : (bs s)[k1]? = some 41 := by rw [← List.head?_drop, e]; rfl
          rw [bs_get s k1 hk1] at h2
          injection h2
        · rfl
    have t40 : ((s[k].toNat : Int) == 40) = false := by simp; omega
    have HN : Hid (small (f + 1) ((bs s).drop k) = none) := hidI (by
      rw [HD.out]
      have hl : leafOf s[k].toNat = none := by unfold leafOf; rw [if_neg h97, if_neg h49, if_neg h48]
      unfold small
      rw [hl]
      dsimp only
      rw [if_neg h33, if_neg h40])
    have OM := hidI (M.out [] (by decide)); have BM := hidI (B.out #[])
    have hq : ((s[k].toNat : Int) < 97) ∨ ((102 : Int) ≤ (s[k].toNat : Int)) := by omega
    clear h97 h49 h48 h33 h40
    rcases hq with hq | hq
    · go_enter Try.func63, Try.ntmps63
      go_wp2_with fail
      go_ret3
      exact ⟨_, [], k, false, rfl, OM.out, by simp, by simp, hk, BM.out, fun h => (by cases h), fun _ => HN.out⟩
    · have hq2 : (97 : Int) ≤ (s[k].toNat : Int) := by omega
      go_enter Try.func63, Try.ntmps63
      go_wp2_with fail
      go_ret3
      exact ⟨_, [], k, false, rfl, OM.out, by simp, by simp, hk, BM.out, fun h => (by cases h), fun _ => HN.out⟩
end Go.Proofs.Ytndbfdgflflfpaa
