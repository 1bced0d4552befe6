/- FnCodeText: for every input the law returns true, and its argument reads as before. -/
import Derived.Test.YtndbfdgflflfpaaOpenB
import Derived.Test.YtndbfdgflflfpaaAlive
import Derived.Test.YtndbfdgflflfpaaLawH
import Derived.Test.YtndbfdgflflfpaaDrawC
import Derived.Test.YtndbfdgflflfpaaTextB
import Derived.Test.YtndbfdgflflfpaaTake
import Derived.IntWalk
import Derived.Laws.Strings
import Derived.Deep.DeepFit
import Derived.Outline
namespace Go.Proofs.Ytndbfdgflflfpaa
open Go.ChangeShapes Go.WideShapes Go.ChangeAt Go.RowKit

theorem spec_DrawCodeText (n : Nat) (v : Value) (w : World) (h : BytS w w.heap.size v n) :
    Calls Try.prog 30 #[v] w fun e w' => ∃ g m cap zs, e = .returned (.slice (some ⟨g, 0, none⟩) m cap) ∧ m ≤ 60 ∧ zs.length = m ∧ IntS w' (.slice (some ⟨g, 0, none⟩) m cap) zs ∧ Below w.heap.size w w' := by
  go_enter Try.func30, Try.ntmps30
  go_wp2_with fail
  go_fit (spec_l20Open n v w h); rintro e w1 ⟨rfl, hr, b1⟩
  go_wp2_with fail
  go_fit (spec_l20Code w.heap.size 0 6 9 w1 hr (by omega) (by omega) (by omega) (by omega) (by omega)); rintro e w2 ⟨g, m, cap, rfl, hm, ho, -, hg⟩
  obtain ⟨zs, hz, hi⟩ := ho.ints
  go_wp2_with fail
  go_ret
  exact ⟨g, m, cap, zs, rfl, hm, hz, hi, b1.grown hg b1.size (fun k hk => by cases hk; exact Nat.le_refl _)⟩

theorem readI (s : List Nat) : ∀ z ∈ (readCode s).getD [], I64 z := by
  unfold readCode
  repeat' split
  · rename_i t e _
    have hk := (whole_good _ _ _ _ e).2.1
    intro z hz
    have := steps_range t hk z hz
    unfold I64; omega
  · simp
  · simp
  · simp

theorem txt_ne (t : Cond) (k : Nat) : 1 ≤ (txt t k).length := by
  cases t with
  | one s => simp [txt]
  | neg c => simp [txt]
  | two s l h =>
    unfold txt
    by_cases hk : (if s = 8 then 2 else 1) < k
    · rw [if_pos hk]; simp
    · rw [if_neg hk]; simp; omega

theorem str_ne {s : ByteArray} (h : 1 ≤ s.size) : s.toList.isEmpty = false := by
  rw [ByteArray.toList_eq]
  cases e : s.data.toList with
  | nil =>
    have : s.data.size = 0 := by rw [← Array.length_toList, e]; rfl
    have h2 : s.size = s.data.size := rfl
    omega
  | cons a l => rfl

/-- A shorter text is another code. -/
theorem read_less {zs : List Int} (h : codeValid zs = true) {s : ByteArray} (hs : s.size < (codeText zs).length) : readCode (bs s) ≠ some zs := by
  intro hr
  obtain ⟨t, hk, rfl, h40, h1, -, -⟩ := valid_tree h
  obtain ⟨t', hk', e, _, hl⟩ := read_long hr
  have e2 : t' = t := by rw [← condOf_steps t' hk', e, condOf_steps t hk]
  subst e2
  rw [codeText_tree h hk] at hs
  rw [bs_len] at hl
  omega

theorem add_any' (a b : ByteArray) (ha : a.size ≤ 100000) (hb : b.size ≤ 100000) : ∃ s : ByteArray, s.size = a.size + b.size ∧ ∀ w, (Op.stringOp .add a b).run Try.prog w = .ok (.string s) w :=
  ⟨a ++ b, by simp, fun w => run_string_add_sum w a b (by omega)⟩

theorem TB_code_sz (zs : List Int) : (TB (codeText zs)).size ≤ 150 := by
  rw [TB_size]
  cases h : codeValid zs with
  | false => rw [codeText_no h]; simp
  | true =>
    obtain ⟨t, hk, rfl, h40, h1, -, -⟩ := valid_tree h
    rw [codeText_tree h hk]
    have := txt_len3 t 0
    omega

theorem cut_size (s : ByteArray) (a b : Nat) (ha : a < b) (hb : b < s.size) : (s.extract 0 a).size + (s.extract (a + 1) b).size + (s.extract (b + 1) s.size).size < s.size := by
  rw [ByteArray.size_extract, ByteArray.size_extract, ByteArray.size_extract]
  omega

set_option maxRecDepth 100000 in
set_option maxHeartbeats 4000000 in
theorem FnCodeText_walk (n : Nat) (v : Value) (w : World) (h : BytS w w.heap.size v n) :
    Calls Try.prog 7 #[v] w fun e w' => e = .returned (.bool true) ∧ Below w.heap.size w w' := by
  obtain ⟨bao, bcap, hv⟩ : ∃ ao cap, v = .slice ao n cap := by obtain ⟨ao, cap, h1, _⟩ := h; exact ⟨ao, cap, h1⟩
  subst hv
  have HV := hidI h; clear h
  by_cases hbig : 1048576 < n
  · go_enter Try.func7, Try.ntmps7
    go_wp2_with fail
    go_ret
    exact ⟨rfl, Below.refl _ _⟩
  have hbig2 : (n : Int) ≤ 1048576 := by omega
  go_enter Try.func7, Try.ntmps7
  go_wp2_with fail
  go_fit (spec_DrawCodeText n _ w HV.out); rintro e w1 ⟨g, m, cap, zs, rfl, hm, hz, hi, b1⟩
  have HC := hidI hi; have B1 := hidI b1; have HZ := hidI hz; clear hi b1 hz
  have hzl : zs.length ≤ 60 := by rw [HZ.out]; exact hm
  go_wp2_with fail
  go_fit (impl_CodeText zs _ _ HC.out); rintro e w2 ⟨rfl, b2⟩
  have HC := hidI (HC.out.below b2); have B1 := hidI (bthen B1.out b2); clear b2
  go_wp2_with fail
  go_fit (spec_CodeText zs _ _ HC.out (by omega)); rintro e w3 ⟨rfl, b3⟩
  have HC := hidI (HC.out.below b3); have B1 := hidI (bthen B1.out b3); clear b3
  cases hv : codeValid zs
  · have HT := hidI (codeText_no hv)
    have HVV := hidI hv; clear hv
    rw [HT.out]
    have hemp : (TB []).toList.isEmpty = true := by rw [ByteArray.toList_eq]; rfl
    go_wp2_with fail
    go_fit (impl_CodeValid zs _ _ HC.out); rintro e w' ⟨rfl, rfl⟩
    rw [HVV.out]
    go_wp2_with fail
    go_fit (laws_alive _); rintro e w4 ⟨rfl, b4⟩
    go_wp2_with fail
    go_ret
    exact ⟨rfl, bthen B1.out b4⟩
  have HRD := hidI (read_text hv)
  have HLS := hidI (fun s hs => read_less hv (s := s) hs)
  have hne : 1 ≤ (codeText zs).length := by
    obtain ⟨t, hk, rfl, h40, h1, -, -⟩ := valid_tree hv
    rw [codeText_tree hv hk]
    exact txt_ne t 0
  have hsz : (TB (codeText zs)).size = (codeText zs).length := TB_size _
  have hsm := TB_code_sz zs
  obtain ⟨s, hs⟩ : ∃ s, s = TB (codeText zs) := ⟨_, rfl⟩
  rw [← hs] at HRD hsz hsm ⊢
  rw [← hsz] at HLS hne
  clear hs hsz
  have HVV := hidI hv; clear hv
  have hemp := str_ne hne
  go_wp2_with fail
  go_fit (impl_ReadCode s _ (by omega)); rintro e w4 ⟨vx, rfl, o4, b4⟩
  rw [HRD.out.1] at o4 ⊢
  simp only [Option.getD_some] at o4
  rw [show (some zs).isSome = true from rfl]
  have B1 := hidI (bthen B1.out b4); have HC := hidI (HC.out.below b4)
  have IX := hidI (IntS.ofOwn o4 HC.out.1).2
  obtain ⟨ax, cx, hvx⟩ := own_slice o4
  subst hvx
  clear o4 b4
  go_wp2_with fail
  go_fit (sameInts_any _ _ _ _ _ IX.out HC.out); rintro e w5 ⟨rfl, n5, rfl⟩
  have B1 := hidI (bthen B1.out (bdraw w4 n5)); have HC := hidI (HC.out.below (bdraw w4 n5)); clear IX
  simp only [decide_true]
  obtain ⟨w5, hw5⟩ : ∃ x, x = w4.drewN n5 := ⟨_, rfl⟩
  rw [← hw5] at B1 HC ⊢
  clear hw5
  have hszI : (s.size : Int) ≤ 150 := by omega
  go_wp2_with fail
  go_loopw [7] (fun i wr => ∃ a : Nat, a ≤ s.size ∧ i = .int .i64 a ∧ Hid (Below w.heap.size w wr) ∧ Hid (IntS wr (.slice (some ⟨g, 0, none⟩) m cap) zs)) (fun i _ => s.size - (intOf i).toNat)
  case atStart => exact ⟨0, by omega, rfl, B1, HC⟩
  case round =>
    clear B1 HC
    obtain ⟨a, ha, rfl, B1, HC⟩ := hrel
    obtain ⟨wo, rfl⟩ : ∃ wo : World, wo = wr := ⟨_, rfl⟩
    by_cases hlt : a < s.size
    rotate_left
    · have hge : ¬ (a : Int) < (s.size : Int) := by omega
      go_wp2_with fail
      go_ret
      exact ⟨rfl, B1.out⟩
    have hltI : (a : Int) < (s.size : Int) := by omega
    by_cases hpa : s[a].toNat = 40
    rotate_left
    · have hpb : ((s[a].toNat : Int) == 40) = false := by simp; omega
      clear hpa
      go_wp2_with fail
      refine wp_loop_rounds 1 ?_
      rw [rounds_succ]
      go_wp2_with fail
      go_roundw
      case rel => exact ⟨a + 1, by omega, by go_num, B1, HC⟩
      case measure => simp [intOf]; omega
    have hpb : ((s[a].toNat : Int) == 40) = true := by simp; omega
    have HPA := hidI hpa; clear hpa
    go_wp2_with fail
    go_loopw [8, 9] (fun dv bv wr => ∃ d b : Nat, a ≤ b ∧ b ≤ s.size ∧ dv = .int .i64 d ∧ bv = .int .i64 b ∧ d ≤ b ∧ Hid (d = 0 → b = a) ∧ Hid (Below w.heap.size w wr) ∧ Hid (IntS wr (.slice (some ⟨g, 0, none⟩) m cap) zs)) (fun _ bv _ => s.size - (intOf bv).toNat)
    case atStart => exact ⟨0, a, by omega, by omega, rfl, rfl, by omega, hidI (fun _ => rfl), B1, HC⟩
    case round =>
      clear B1 HC
      obtain ⟨d, b, hab, hb, rfl, rfl, hdb, HD, B1, HC⟩ := hrel
      by_cases hlb : b < s.size
      rotate_left
      · have hge : ¬ (b : Int) < (s.size : Int) := by omega
        go_wp2_with fail
        go_roundw
        case rel => exact ⟨a + 1, by omega, by go_num, B1, HC⟩
        case measure => simp [intOf]; omega
      have hlbI : (b : Int) < (s.size : Int) := by omega
      by_cases hq : s[b].toNat = 40
      · have hq1 : ((s[b].toNat : Int) == 40) = true := by simp; omega
        have hq2 : ((s[b].toNat : Int) == 41) = false := by simp; omega
        have hd0 : (((d : Int) + 1) == 0) = false := by simp; omega
        clear hq
        go_wp2_with fail
        go_roundw
        case rel => exact ⟨d + 1, b + 1, by omega, by omega, by go_num, by go_num, by omega, hidI (fun h => by omega), B1, HC⟩
        case measure => simp [intOf]; omega
      have hq1 : ((s[b].toNat : Int) == 40) = false := by simp; omega
      have hba : a < b := by
        rcases Nat.lt_or_ge a b with h | h
        · exact h
        · have e : b = a := by omega
          subst e
          exact absurd HPA.out hq
      have hd1 : 1 ≤ d := by
        rcases Nat.eq_zero_or_pos d with h | h
        · have := HD.out h; omega
        · exact h
      by_cases hr : s[b].toNat = 41
      rotate_left
      · have hq2 : ((s[b].toNat : Int) == 41) = false := by simp; omega
        have hd0 : ((d : Int) == 0) = false := by simp; omega
        clear hr hq
        go_wp2_with fail
        go_roundw
        case rel => exact ⟨d, b + 1, by omega, by omega, rfl, by go_num, by omega, hidI (fun h => by omega), B1, HC⟩
        case measure => simp [intOf]; omega
      have hq2 : ((s[b].toNat : Int) == 41) = true := by simp; omega
      clear hr hq
      by_cases hd2 : d = 1
      rotate_left
      · have hd0 : (((d : Int) - 1) == 0) = false := by simp; omega
        have hd3 : 2 ≤ d := by omega
        clear hd2
        go_wp2_with fail
        go_roundw
        case rel => exact ⟨d - 1, b + 1, by omega, by omega, by go_num, by go_num, by omega, hidI (fun h => by omega), B1, HC⟩
        case measure => simp [intOf]; omega
      subst hd2
      have hd0 : (((1 : Nat) : Int) - 1 == 0) = true := by decide
      go_wp2_with fail
      refine wp_region_any (by kernel_rfl) ?_
      change wpAny _ _ _ _ _ _ _ (World.drew _)
      obtain ⟨W0, hW0⟩ : ∃ x, x = World.drew wr := ⟨_, rfl⟩
      rw [← hW0]
      have B1 := hidI (by rw [hW0]; exact bthen B1.out (Below.refl _ _).drew : Below w.heap.size w W0)
      have HC := hidI (by rw [hW0]; exact HC.out.below (Below.refl _ _).drew : IntS W0 _ zs)
      clear hW0
      have hcs := cut_size s a b hba hlb
      have u1 : a ≤ s.size := by omega
      have u2 : IntKind.i64.wrap ((a : Int) + 1) = (a : Int) + 1 := IntWalk.i64_in _ (by omega)
      have u3 : (a : Int) + 1 ≤ (b : Int) := by omega
      have u4 : (0 : Int) ≤ (a : Int) + 1 := by omega
      have u5 : ((a : Int) + 1).toNat = a + 1 := by omega
      have u6 : (b : Int) ≤ (s.size : Int) := by omega
      have u7 : b ≤ s.size := by omega
      have u8 : IntKind.i64.wrap ((b : Int) + 1) = (b : Int) + 1 := IntWalk.i64_in _ (by omega)
      have u9 : (b : Int) + 1 ≤ (s.size : Int) := by omega
      have u10 : (0 : Int) ≤ (b : Int) + 1 := by omega
      have u11 : ((b : Int) + 1).toNat = b + 1 := by omega
      have u12 : a + 1 ≤ b := by omega
      have u13 : b + 1 ≤ s.size := by omega
      refine take_at (i := 0) (v := ?_) 78 rfl rfl (by kernel_rfl) (by kernel_rfl) (by kernel_rfl) (fun _ _ _ h => h) (Or.inl ⟨by rfl, ?_⟩) ?_
      rotate_left
      · intro w; go_simp; try with_reducible rfl
      (try simp only [Act.put, List.setIfInBounds_toArray, List.set_cons_zero, List.set_cons_succ])
      refine take_at (i := 1) (v := ?_) 79 rfl rfl (by kernel_rfl) (by kernel_rfl) (by kernel_rfl) (fun _ _ _ h => h) (Or.inl ⟨by rfl, ?_⟩) ?_
      rotate_left
      · intro w; go_simp; try with_reducible rfl
      (try simp only [Act.put, List.setIfInBounds_toArray, List.set_cons_zero, List.set_cons_succ])
      refine take_at (i := 2) (v := ?_) 80 rfl rfl (by kernel_rfl) (by kernel_rfl) (by kernel_rfl) (fun _ _ _ h => h) (Or.inl ⟨by rfl, ?_⟩) ?_
      rotate_left
      · intro w; go_simp; try with_reducible rfl
      (try simp only [Act.put, List.setIfInBounds_toArray, List.set_cons_zero, List.set_cons_succ])
      refine take_at (i := 3) (v := ?_) 81 rfl rfl (by kernel_rfl) (by kernel_rfl) (by kernel_rfl) (fun _ _ _ h => h) (Or.inl ⟨by rfl, ?_⟩) ?_
      rotate_left
      · intro w; go_simp; try with_reducible rfl
      (try simp only [Act.put, List.setIfInBounds_toArray, List.set_cons_zero, List.set_cons_succ])
      refine take_at (i := 4) (v := ?_) 82 rfl rfl (by kernel_rfl) (by kernel_rfl) (by kernel_rfl) (fun _ _ _ h => h) (Or.inl ⟨by rfl, ?_⟩) ?_
      rotate_left
      · intro w; go_simp; try with_reducible rfl
      (try simp only [Act.put, List.setIfInBounds_toArray, List.set_cons_zero, List.set_cons_succ])
      refine take_at (i := 5) (v := ?_) 83 rfl rfl (by kernel_rfl) (by kernel_rfl) (by kernel_rfl) (fun _ _ _ h => h) (Or.inl ⟨by rfl, ?_⟩) ?_
      rotate_left
      · intro w; go_simp; try with_reducible rfl
      (try simp only [Act.put, List.setIfInBounds_toArray, List.set_cons_zero, List.set_cons_succ])
      refine take_at (i := 6) (v := ?_) 84 rfl rfl (by kernel_rfl) (by kernel_rfl) (by kernel_rfl) (fun _ _ _ h => h) (Or.inl ⟨by rfl, ?_⟩) ?_
      rotate_left
      · intro w; go_simp; try with_reducible rfl
      (try simp only [Act.put, List.setIfInBounds_toArray, List.set_cons_zero, List.set_cons_succ])
      refine take_at (i := 7) (v := ?_) 85 rfl rfl (by kernel_rfl) (by kernel_rfl) (by kernel_rfl) (fun _ _ _ h => h) (Or.inl ⟨by rfl, ?_⟩) ?_
      rotate_left
      · intro w; go_simp; try with_reducible rfl
      (try simp only [Act.put, List.setIfInBounds_toArray, List.set_cons_zero, List.set_cons_succ])
      obtain ⟨sa, hsa⟩ : ∃ x, x = s.extract 0 a := ⟨_, rfl⟩
      rw [← hsa] at hcs ⊢
      obtain ⟨sb, hsb⟩ : ∃ x, x = s.extract (a + 1) b := ⟨_, rfl⟩
      rw [← hsb] at hcs ⊢
      clear hsa hsb
      obtain ⟨s5, hs5, AL⟩ := add_any' sa sb (by omega) (by omega)
      have hs5' : s5.size ≤ sa.size + sb.size := by omega
      clear hs5
      refine take_at (i := 8) (v := ?_) 86 rfl rfl (by kernel_rfl) (by kernel_rfl) (by kernel_rfl) (fun _ _ _ h => h) (Or.inl ⟨by rfl, ?_⟩) ?_
      rotate_left
      · intro w; go_simp; try with_reducible rfl
      (try simp only [Act.put, List.setIfInBounds_toArray, List.set_cons_zero, List.set_cons_succ])
      refine take_at (i := 9) (v := ?_) 87 rfl rfl (by kernel_rfl) (by kernel_rfl) (by kernel_rfl) (fun _ _ _ h => h) (Or.inl ⟨by rfl, ?_⟩) ?_
      rotate_left
      · intro w; go_simp; try with_reducible rfl
      (try simp only [Act.put, List.setIfInBounds_toArray, List.set_cons_zero, List.set_cons_succ])
      refine take_at (i := 10) (v := ?_) 88 rfl rfl (by kernel_rfl) (by kernel_rfl) (by kernel_rfl) (fun _ _ _ h => h) (Or.inl ⟨by rfl, ?_⟩) ?_
      rotate_left
      · intro w; go_simp; try with_reducible rfl
      (try simp only [Act.put, List.setIfInBounds_toArray, List.set_cons_zero, List.set_cons_succ])
      refine take_at (i := 11) (v := ?_) 89 rfl rfl (by kernel_rfl) (by kernel_rfl) (by kernel_rfl) (fun _ _ _ h => h) (Or.inl ⟨by rfl, ?_⟩) ?_
      rotate_left
      · intro w; go_simp; try with_reducible rfl
      (try simp only [Act.put, List.setIfInBounds_toArray, List.set_cons_zero, List.set_cons_succ])
      refine take_at (i := 12) (v := ?_) 90 rfl rfl (by kernel_rfl) (by kernel_rfl) (by kernel_rfl) (fun _ _ _ h => h) (Or.inl ⟨by rfl, ?_⟩) ?_
      rotate_left
      · intro w; go_simp; try with_reducible rfl
      (try simp only [Act.put, List.setIfInBounds_toArray, List.set_cons_zero, List.set_cons_succ])
      obtain ⟨sc, hsc⟩ : ∃ x, x = s.extract (b + 1) s.size := ⟨_, rfl⟩
      rw [← hsc] at hcs ⊢
      clear hsc
      obtain ⟨s6, hs6, AM⟩ := add_any' s5 sc (by omega) (by omega)
      have hs6l : s6.size < s.size := by omega
      clear hs6 hcs hs5' u2 u5 u8 u11
      refine take_at (i := 13) (v := ?_) 91 rfl rfl (by kernel_rfl) (by kernel_rfl) (by kernel_rfl) (fun _ _ _ h => h) (Or.inl ⟨by rfl, ?_⟩) ?_
      rotate_left
      · intro w; go_simp; try with_reducible rfl
      (try simp only [Act.put, List.setIfInBounds_toArray, List.set_cons_zero, List.set_cons_succ])
      refine wpAny_ready (rs := [14]) (by kernel_rfl) (by simp) ?_
      refine (AllReady.cons rfl (fun K hK => ?_) AllReady.nil)
      go_simp
      go_at_call 10
      refine (impl_ReadCode s6 _ (by omega)).mono ?_; rintro e w6 ⟨vy, rfl, o6, b6⟩
      dsimp only
      refine hK _ _ ?_; clear hK K
      have HN := hidI (HLS.out s6 hs6l)
      have B1 := hidI (bthen B1.out b6); have HC := hidI (HC.out.below b6)
      have IY := hidI (IntS.ofOwn o6 (readI _)).2
      obtain ⟨ay, cy, hvy⟩ := own_slice o6
      subst hvy
      clear o6 b6
      cases hrc : readCode (bs s6) with
      | none =>
        simp only [Option.isSome_none]
        refine take_at (i := 15) (v := ?_) 77 rfl rfl (by kernel_rfl) (by kernel_rfl) (by kernel_rfl) (fun _ _ _ h => h) (Or.inl ⟨by rfl, ?_⟩) ?_
        rotate_left
        · intro w; go_simp; try with_reducible rfl
        (try simp only [Act.put, List.setIfInBounds_toArray, List.set_cons_zero, List.set_cons_succ])
        refine take_at (i := 16) (v := ?_) 93 rfl rfl (by kernel_rfl) (by kernel_rfl) (by kernel_rfl) (fun _ _ _ h => h) (Or.inl ⟨by rfl, ?_⟩) ?_
        rotate_left
        · intro w; go_simp; try with_reducible rfl
        (try simp only [Act.put, List.setIfInBounds_toArray, List.set_cons_zero, List.set_cons_succ])
        refine take_at (i := 17) (v := ?_) 94 rfl rfl (by kernel_rfl) (by kernel_rfl) (by kernel_rfl) (fun _ _ _ h => h) (Or.inl ⟨by rfl, ?_⟩) ?_
        rotate_left
        · intro w; go_simp; try with_reducible rfl
        (try simp only [Act.put, List.setIfInBounds_toArray, List.set_cons_zero, List.set_cons_succ])
        refine take_at (i := 18) (v := ?_) 10 rfl rfl (by kernel_rfl) (by kernel_rfl) (by kernel_rfl) (fun _ _ _ h => h) (Or.inl ⟨by rfl, ?_⟩) ?_
        rotate_left
        · intro w; go_simp; try with_reducible rfl
        (try simp only [Act.put, List.setIfInBounds_toArray, List.set_cons_zero, List.set_cons_succ])
        refine take_at (i := 19) (v := ?_) 11 rfl rfl (by kernel_rfl) (by kernel_rfl) (by kernel_rfl) (fun _ _ _ h => h) (Or.inl ⟨by rfl, ?_⟩) ?_
        rotate_left
        · intro w; go_simp; try with_reducible rfl
        (try simp only [Act.put, List.setIfInBounds_toArray, List.set_cons_zero, List.set_cons_succ])
        refine wpAny_done (by kernel_rfl) ?_ _
        go_wp2_with fail
        go_roundw
        case rel => exact ⟨a + 1, by omega, by go_num, B1, HC⟩
        case measure => simp [intOf]; omega
      | some q =>
        rw [hrc] at HN IY
        simp only [Option.getD_some] at IY
        simp only [Option.isSome_some, Option.getD_some]
        have hqz : q ≠ zs := fun e => HN.out (by rw [e])
        have HQ := hidI (decide_eq_false hqz)
        clear hrc hqz HN
        refine take_at (i := 15) (v := ?_) 77 rfl rfl (by kernel_rfl) (by kernel_rfl) (by kernel_rfl) (fun _ _ _ h => h) (Or.inl ⟨by rfl, ?_⟩) ?_
        rotate_left
        · intro w; go_simp; try with_reducible rfl
        (try simp only [Act.put, List.setIfInBounds_toArray, List.set_cons_zero, List.set_cons_succ])
        refine take_at (i := 16) (v := ?_) 93 rfl rfl (by kernel_rfl) (by kernel_rfl) (by kernel_rfl) (fun _ _ _ h => h) (Or.inl ⟨by rfl, ?_⟩) ?_
        rotate_left
        · intro w; go_simp; try with_reducible rfl
        (try simp only [Act.put, List.setIfInBounds_toArray, List.set_cons_zero, List.set_cons_succ])
        refine take_at (i := 17) (v := ?_) 94 rfl rfl (by kernel_rfl) (by kernel_rfl) (by kernel_rfl) (fun _ _ _ h => h) (Or.inl ⟨by rfl, ?_⟩) ?_
        rotate_left
        · intro w; go_simp; try with_reducible rfl
        (try simp only [Act.put, List.setIfInBounds_toArray, List.set_cons_zero, List.set_cons_succ])
        refine take_at (i := 18) (v := ?_) 10 rfl rfl (by kernel_rfl) (by kernel_rfl) (by kernel_rfl) (fun _ _ _ h => h) (Or.inl ⟨by rfl, ?_⟩) ?_
        rotate_left
        · intro w; go_simp; try with_reducible rfl
        (try simp only [Act.put, List.setIfInBounds_toArray, List.set_cons_zero, List.set_cons_succ])
        refine take_at (i := 19) (v := ?_) 11 rfl rfl (by kernel_rfl) (by kernel_rfl) (by kernel_rfl) (fun _ _ _ h => h) (Or.inl ⟨by rfl, ?_⟩) ?_
        rotate_left
        · intro w; go_simp; try with_reducible rfl
        (try simp only [Act.put, List.setIfInBounds_toArray, List.set_cons_zero, List.set_cons_succ])
        refine wpAny_done (by kernel_rfl) ?_ _
        go_wp2_with fail
        go_fit (sameInts_any _ _ _ _ _ IY.out HC.out); rintro e w7 ⟨rfl, n7, rfl⟩
        rw [HQ.out]
        have B1 := hidI (bthen B1.out (bdraw w6 n7)); have HC := hidI (HC.out.below (bdraw w6 n7))
        go_wp2_with fail
        go_roundw
        case rel => exact ⟨a + 1, by omega, by go_num, B1, HC⟩
        case measure => simp [intOf]; omega

set_option maxRecDepth 100000 in
theorem FnCodeText_lifted (os : Os) (started : os.Started) (H : Type) (enc : TypeId × Value → H) :
    ReturnsInHanded {} Try.checked os 7 .any (Rows.fnCodeTextSpec.pre6 enc Try.prog Try.f7 Rows.fnCodeTextRow.domain false) (Rows.fnCodeTextSpec.post enc Try.prog Try.f7 false true false false) := by
  refine returnsInHanded_of_change (C := Try.checked) own started (by kernel_rfl) Try.func7
    (ChangeSpec.witness6 (enc := enc) (C := Try.checked) false ⟨#[], #[.slice none 0 0], []⟩ 8 (by kernel_rfl) (by kernel_rfl) (by kernel_rfl) (by kernel_rfl)) ?_
  intro W base args ds gs before hval0 hW hcnd _
  have hval : ∀ (j : Nat) t v, Try.f7.params[j]? = some t → args[j]? = some v → Value.okWide Try.prog W .any base t v := hval0
  have hW' := hW
  obtain ⟨p, q, hA0, hV, rfl, hfz, hnd⟩ := hW
  have hA : DataW.TrodAll enc Try.prog W 0 (fun _ => true) true Try.f7.params.toList args.toList ds p := hA0
  rw [Try.params7] at hA hval
  obtain ⟨rfl, rfl⟩ := trodVars_none hV
  clear hA0 hval0
  simp only [List.append_nil] at hW'
  obtain ⟨v0, d0, rfl, rfl, h0⟩ := trodAll_one hA
  have l0 : ∀ x ∈ p, x.block < W.heap.size := fun x hx => by simpa using hW'.lt x hx
  have k0 : ∀ (W' : World), Below W.heap.size W W' → DataW.Trod enc Try.prog W' 0 (fun b => decide (b < W.heap.size)) true 40 v0 d0 p := fun W' hn => Below.trod laidOut (by kernel_rfl) (of_decide_eq_true (by kernel_rfl)) h0 hn l0
  obtain ⟨n, hn⟩ := open_BytS (hval 0 40 v0 rfl rfl) h0 l0
  refine (FnCodeText_walk n v0 W hn).mono fun e W' ⟨he, hb⟩ => ?_
  subst he
  exact ⟨_, rfl, _, _, _, [], _, [], hW', shut_true, trodAll_mk1 (k0 _ hb), rfl, hb.frame _, fun h => by cases h⟩

theorem FnCodeText_holds : Rows.FnCodeTextSaid :=
  OpenClaim.holds_of_wide 7 Try.f7 rfl rfl rfl rfl rfl rfl rfl ⟨rfl, rfl, rfl, rfl, rfl⟩ rfl rfl rfl rfl rfl (by kernel_rfl) Try.func7 (by kernel_rfl)
    (of_decide_eq_true (by kernel_rfl)) (by unfold Func.isWrapper; first | (rw [if_pos (by decide +kernel)]; kernel_rfl) | (rw [if_neg (by decide +kernel)]; exact ⟨rfl, rfl⟩))
    (fun os started H enc _ => FnCodeText_lifted os started H enc)
end Go.Proofs.Ytndbfdgflflfpaa
