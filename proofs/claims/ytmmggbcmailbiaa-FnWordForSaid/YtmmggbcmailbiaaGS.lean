/- PermNone, PermThen, PermBack, l4Same, l4Has, l4Index of the reference. -/
import Derived.Test.YtmmggbcmailbiaaGJ
namespace Go.Proofs.Ytmmggbcmailbiaa
open Go.RowKit Grp

set_option maxHeartbeats 400000 in
theorem spec_PermNone_out (places : Int) (w : World) (h : places < 1 ∨ 5 < places) :
    Calls Try.prog 65 #[.int .i64 places] w fun e w' => GivesL w w' [] e := by
  have HO := hidI (own_made (w := w) (base := w.heap.size) rfl (Nat.le_refl _) 3)
  have HB := hidI ((Below.refl w.heap.size w).alloc (Nat.le_refl _) (.cells #[] 3))
  by_cases h1 : places < 1
  · have h2 : ¬ (0 : Int) < places := by omega
    go_enter Try.func65, Try.ntmps65
    go_wp2_with fail
    refine wp_loop_rounds 1 ?_
    rw [rounds_succ]
    go_wp2_with fail
    go_ret
    exact ⟨_, rfl, HO.out, HB.out⟩
  · have h2 : (0 : Int) < places := by omega
    have h3 : ¬ places ≤ 5 := by omega
    go_enter Try.func65, Try.ntmps65
    go_wp2_with fail
    refine wp_loop_rounds 1 ?_
    rw [rounds_succ]
    go_wp2_with fail
    go_ret
    exact ⟨_, rfl, HO.out, HB.out⟩

def upto (f : Nat → Nat) (k : Nat) : List Int := (List.range k).map (fun t => (f t : Int))
theorem upto_succ (f : Nat → Nat) (k : Nat) : upto f (k + 1) = upto f k ++ [(f k : Int)] := by unfold upto; rw [List.range_succ]; simp
theorem upto_len (f : Nat → Nat) (k : Nat) : (upto f k).length = k := by unfold upto; simp
theorem upto_eq {n : Nat} {q : Pm} {f : Nat → Nat} (hq : q.length = n) (h : ∀ t, t < n → f t = ap q t) : upto f n = up q := by
  unfold upto up
  refine List.ext_getElem (by simp [hq]) (fun i h1 h2 => ?_)
  simp at h1 h2
  simp [h i h1]
  unfold ap
  rw [List.getD_eq_getElem?_getD, List.getElem?_eq_getElem h2]; rfl

theorem own_upto {w : World} {base g c k n : Nat} {f : Nat → Nat} {q : Pm} (h : w.ownsRow base 3 1 (.slice (some ⟨g, 0, none⟩) k c) k ((upto f k).map (Value.int .i64))) (hk : k = n) (hq : q.length = n) (hf : ∀ t, t < n → f t = ap q t) :
    w.ownsRow base 3 1 (.slice (some ⟨g, 0, none⟩) k c) (up q).length ((up q).map (Value.int .i64)) := by
  subst hk
  rw [upto_eq hq hf] at h
  rw [up_len, hq]; exact h

set_option maxHeartbeats 1000000 in
theorem spec_PermNone (n : Nat) (w : World) (h1 : 1 ≤ n) (h5 : n ≤ 5) :
    Calls Try.prog 65 #[.int .i64 (n : Int)] w fun e w' => GivesL w w' (up (idP n)) e := by
  have HO := hidI (own_made (w := w) (base := w.heap.size) rfl (Nat.le_refl _) 3)
  have HB := hidI ((Below.refl w.heap.size w).alloc (Nat.le_refl _) (.cells #[] 3))
  have h5I : (n : Int) ≤ 5 := by omega
  go_enter Try.func65, Try.ntmps65
  go_wp2_with fail
  go_loopw [3, 4] (fun vo vk wr => ∃ (k g c : Nat), k ≤ n ∧ vk = .int .i64 (k : Int) ∧ vo = .slice (some ⟨g, 0, none⟩) k c ∧ Hid (wr.ownsRow w.heap.size 3 1 (.slice (some ⟨g, 0, none⟩) k c) k ((upto (fun t => t) k).map (Value.int .i64))) ∧ Hid (Below w.heap.size w wr)) (fun _ vk _ => n - (intOf vk).toNat)
  case atStart => exact ⟨0, _, _, by omega, rfl, rfl, HO, HB⟩
  case round =>
    clear HO HB
    obtain ⟨k, g, c, hk, rfl, rfl, HO, HB⟩ := hrel
    have hs := HB.out.size
    by_cases hlt : k < n
    · have hkI : (k : Int) < (n : Int) := by omega
      go_wp2_with (at_builtin; refine wpList_push wr rfl _ _ 24 rfl w.heap.size 3 (.int .i64 0) 8 Try.underlying24 infoInt rfl (.slice (some ⟨g, 0, none⟩) k c) k ((upto (fun t => t) k).map (Value.int .i64)) (.int .i64 (k : Int)) rfl rfl HO.out rfl (by omega) (by decide) (by omega) ?_)
      intro g' c' w' hg' ho' hb' _
      have HO' := hidI ho'; have HB' := hidI (hb' _ HB.out); clear ho' hb'
      go_wp2_with fail
      go_roundw
      case rel => exact ⟨k + 1, g', c', by omega, by go_num, rfl, hidI (by rw [upto_succ, List.map_append]; exact HO'.out), HB'⟩
      case measure => simp [intOf]; omega
    · have hkI : ¬ (k : Int) < (n : Int) := by omega
      have hk2 := hidI (show k = n by omega)
      go_wp2_with fail
      go_ret
      refine ⟨_, rfl, ?_, HB.out⟩
      exact own_upto HO.out hk2.out (isP_id n).len (fun t ht => (ap_id ht).symm)

set_option maxHeartbeats 1000000 in
theorem spec_PermThen (n : Nat) (p q : Pm) (v u : Value) (w : World) (hv : IntS w v (up p)) (hu : IntS w u (up q)) (hp : IsP n p) (hq : IsP n q) (h1 : 1 ≤ n) (h5 : n ≤ 5) :
    Calls Try.prog 67 #[v, u] w fun e w' => GivesL w w' (up (join p q)) e := by
  have HV := hidI hv; have HU := hidI hu
  obtain ⟨b, off, cap, rfl, c1, c2, hb, hc⟩ := up_cells hv hp h1
  obtain ⟨b', off', cap', rfl, c1', c2', hb', hc'⟩ := up_cells hu hq h1
  unfold maxLen at c2 c2'
  have Hc := hidI hc; have Hc' := hidI hc'; have HP := hidI hp; have HQ := hidI hq
  have HVP := hidI (pvalid_up hp h1 h5); have HVQ := hidI (pvalid_up hq h1 h5)
  have hlp : (up p).length ≤ 4000000 := by rw [up_len, hp.len]; omega
  have hlq : (up q).length ≤ 4000000 := by rw [up_len, hq.len]; omega
  clear hc hc' hv hu hp hq
  have HO := hidI (own_made (w := w) (base := w.heap.size) rfl (Nat.le_refl _) 3)
  have HB := hidI ((Below.refl w.heap.size w).alloc (Nat.le_refl _) (.cells #[] 3))
  have hnn : ((n : Int) == (n : Int)) = true := by simp
  go_enter Try.func67, Try.ntmps67
  go_wp2_with fail
  go_loopw [5, 6] (fun vo vk wr => ∃ (k g c : Nat), k ≤ n ∧ vk = .int .i64 (k : Int) ∧ vo = .slice (some ⟨g, 0, none⟩) k c ∧ Hid (wr.ownsRow w.heap.size 3 1 (.slice (some ⟨g, 0, none⟩) k c) k ((upto (fun t => ap q (ap p t)) k).map (Value.int .i64))) ∧ Hid (Below w.heap.size w wr)) (fun _ vk _ => n - (intOf vk).toNat)
  case atStart => exact ⟨0, _, _, by omega, rfl, rfl, HO, HB⟩
  case round =>
    clear HO HB
    obtain ⟨k, g, c, hk, rfl, rfl, HO, HB⟩ := hrel
    have hs := HB.out.size
    by_cases hlt : k < n
    · have hkI : (k : Int) < (n : Int) := by omega
      go_wp2_with fail
      refine (spec_PermValid (up p) _ _ (HV.out.below HB.out) hlp).mono ?_; rintro e w1 ⟨rfl, n1, hw1⟩; rw [HVP.out]
      have B1 := hidI (show Below w.heap.size w w1 by rw [hw1]; exact bthen HB.out (bdraw _ _))
      have O1 := hidI (show w1.ownsRow w.heap.size 3 1 (.slice (some ⟨g, 0, none⟩) k c) k ((upto (fun t => ap q (ap p t)) k).map (Value.int .i64)) by rw [hw1]; exact own_below HO.out (bdraw _ _))
      clear hw1
      go_wp2_with fail
      refine (spec_PermValid (up q) _ _ (HU.out.below B1.out) hlq).mono ?_; rintro e w2 ⟨rfl, n2, hw2⟩; rw [HVQ.out]
      have B2 := hidI (show Below w.heap.size w w2 by rw [hw2]; exact bthen B1.out (bdraw _ _))
      have O2 := hidI (show w2.ownsRow w.heap.size 3 1 (.slice (some ⟨g, 0, none⟩) k c) k ((upto (fun t => ap q (ap p t)) k).map (Value.int .i64)) by rw [hw2]; exact own_below O1.out (bdraw _ _))
      have hs2 := B2.out.size
      clear hw2
      have ht := ap_lt HP.out hlt
      have e1 : w2.cell? ⟨b, off + k, none⟩ = some (.int .i64 (ap p k : Nat)) := (B2.out.cell (p := ⟨b, off + k, none⟩) hb).trans (Hc.out k hlt)
      have e2 : w2.cell? ⟨b', off' + ap p k, none⟩ = some (.int .i64 (ap q (ap p k) : Nat)) := (B2.out.cell (p := ⟨b', off' + ap p k, none⟩) hb').trans (Hc'.out _ ht)
      obtain ⟨T, hT⟩ : ∃ T, T = ap p k := ⟨_, rfl⟩
      obtain ⟨U, hU⟩ : ∃ U, U = ap q T := ⟨_, rfl⟩
      rw [← hT] at e1 e2 ht; rw [← hU] at e2
      have HUU := hidI (show U = ap q (ap p k) by rw [hU, hT]); clear hT hU
      have htI : (T : Int) < (n : Int) := by omega
      go_wp2_with (at_builtin; refine wpList_push w2 rfl _ _ 24 rfl w.heap.size 3 (.int .i64 0) 8 Try.underlying24 infoInt rfl (.slice (some ⟨g, 0, none⟩) k c) k ((upto (fun t => ap q (ap p t)) k).map (Value.int .i64)) (.int .i64 (U : Int)) rfl rfl O2.out rfl (by omega) (by decide) (by omega) ?_)
      intro g' c' w' hg' ho' hb' _
      have HO' := hidI ho'; have HB' := hidI (hb' _ B2.out); clear ho' hb'
      go_wp2_with fail
      go_roundw
      case rel => exact ⟨k + 1, g', c', by omega, by go_num, rfl, hidI (by rw [upto_succ, List.map_append, ← HUU.out]; exact HO'.out), HB'⟩
      case measure => simp [intOf]; omega
    · have hkI : ¬ (k : Int) < (n : Int) := by omega
      have hk2 := hidI (show k = n by omega)
      go_wp2_with fail
      go_ret
      refine ⟨_, rfl, ?_, HB.out⟩
      exact own_upto HO.out hk2.out (isP_join HP.out HQ.out).len (fun t ht => (ap_join q HP.out ht).symm)

set_option maxHeartbeats 1000000 in
theorem spec_PermBack (n : Nat) (p : Pm) (v : Value) (w : World) (hv : IntS w v (up p)) (hp : IsP n p) (h1 : 1 ≤ n) (h5 : n ≤ 5) :
    Calls Try.prog 82 #[v] w fun e w' => GivesL w w' (up (turn p)) e := by
  have HV := hidI hv
  obtain ⟨b, off, cap, rfl, c1, c2, hb, hc⟩ := up_cells hv hp h1
  unfold maxLen at c2
  have hmk := made_int n (by omega)
  have Hc := hidI hc; have HP := hidI hp
  have HVP := hidI (pvalid_up hp h1 h5)
  have hlp : (up p).length ≤ 4000000 := by rw [up_len, hp.len]; omega
  clear hc hv hp
  go_enter Try.func82, Try.ntmps82
  go_wp2_with fail
  refine (spec_PermValid (up p) _ _ HV.out hlp).mono ?_; rintro e w1 ⟨rfl, n1, hw1⟩; rw [HVP.out]
  have B1 := hidI (show Below w.heap.size w w1 by rw [hw1]; exact bdraw _ _)
  clear hw1
  have hs1 := B1.out.size
  have HR0 := hidI (World.rowIs_made w1 (.int .i64 0) n 3)
  have HB0 := hidI ((B1.out.alloc hs1 (.cells (madeCells #[.int .i64 0] n) 3)))
  go_wp2_with fail
  go_loopw [4] (fun i wr => ∃ (k : Nat) (f : Nat → Value), k ≤ n ∧ i = .int .i64 k ∧ Hid (wr.rowIs w1.heap.size 3 n f) ∧ Hid (∀ t, t < k → f (ap p t) = .int .i64 (t : Nat)) ∧ Hid (Below w.heap.size w wr)) (fun i _ => n - (intOf i).toNat)
  case atStart => exact ⟨0, _, by omega, rfl, HR0, hidI (fun t ht => by omega), HB0⟩
  case round =>
    clear hmk HR0 HB0
    obtain ⟨k, f, hk, rfl, HR, HF, HB⟩ := hrel
    by_cases hlt : k < n
    · have ht := ap_lt HP.out hlt
      have hkI : (k : Int) < (n : Int) := by omega
      have e1 : wr.cell? ⟨b, off + k, none⟩ = some (.int .i64 (ap p k : Nat)) := (HB.out.cell (p := ⟨b, off + k, none⟩) hb).trans (Hc.out k hlt)
      have e3 : wr.cell? ⟨w1.heap.size, ap p k, none⟩ = some (f (ap p k)) := HR.out.cell ht
      have e4 : wr.frozen? ⟨w1.heap.size, ap p k, none⟩ = false := HR.out.frozen _
      obtain ⟨T, hT⟩ : ∃ T, T = ap p k := ⟨_, rfl⟩
      rw [← hT] at e1 e3 e4 ht
      have HT := hidI hT; clear hT
      have htI : (T : Int) < (n : Int) := by omega
      go_wp2_with fail
      go_roundw
      case rel => exact ⟨k + 1, _, by omega, by go_num, hidI (HR.out.set _ _), hidI (fun t ht => by
        by_cases e : t = k
        · subst e; rw [if_pos HT.out.symm]
        · rw [if_neg (fun h => e (ap_inj HP.out (by omega) hlt (h.trans HT.out)))]; exact HF.out t (by omega)), hidI (HB.out.setCell hs1 _)⟩
      case measure => simp [intOf]; omega
    · have hk2 := hidI (show k = n by omega)
      have hkI : ¬ (k : Int) < (n : Int) := by omega
      clear hlt
      go_wp2_with fail
      go_ret
      refine ⟨_, rfl, ?_, HB.out⟩
      have := own_up (base := w.heap.size) HR.out (isP_turn HP.out).len (fun t ht => by
        have e := ap_ap_turn HP.out ht
        rw [← HF.out _ (by rw [hk2.out]; exact ap_lt (isP_turn HP.out) ht), e]) (by omega) hs1
      rw [up_len, (isP_turn HP.out).len] at this ⊢
      exact this

theorem takeN' {xs : List Int} {k : Nat} (h : k < xs.length) : xs.take (k + 1) = xs.take k ++ [xs.getD k 0] := by
  rw [List.take_succ_eq_append_getElem h, List.getD_eq_getElem?_getD, List.getElem?_eq_getElem h]; rfl

theorem same_end {xs ys : List Int} {k : Nat} (hk : k ≤ xs.length) (hk' : k ≤ ys.length) (hm : ¬ (k < xs.length ∧ k < ys.length)) (h : xs.take k = ys.take k) : ((xs.length : Int) == (ys.length : Int)) = decide (xs = ys) := by
  by_cases e : xs.length = ys.length
  · have h1 : k = xs.length := by omega
    have h2 : k = ys.length := by omega
    rw [h1, List.take_length] at h
    rw [← h1, h2, List.take_length] at h
    subst h
    simp
  · have : ¬ xs = ys := fun h => e (by rw [h])
    rw [decide_eq_false this]
    simp; omega

set_option maxHeartbeats 1000000 in
theorem spec_l4Same (xs ys : List Int) (v u : Value) (w : World) (hv : IntS w v xs) (hu : IntS w u ys) :
    Calls Try.prog 66 #[v, u] w fun e w' => e = .returned (.bool (decide (xs = ys))) ∧ ∃ n, w' = w.drewN n := by
  obtain ⟨_, ao, cap, hv1, a1, a2, a3⟩ := id hv
  obtain ⟨_, ao', cap', hu1, a1', a2', a3'⟩ := id hu
  subst hv1; subst hu1
  unfold maxLen at a2 a2'
  by_cases hx : xs.length = 0
  · have HE := hidI (same_end (k := 0) (by omega) (by omega) (by omega) (show xs.take 0 = ys.take 0 by simp))
    have hI : ¬ (0 : Int) < (xs.length : Int) := by omega
    clear a3 a3' hx
    go_enter Try.func66, Try.ntmps66
    go_wp2_with fail
    refine wp_loop_rounds 1 ?_
    rw [rounds_succ]
    go_wp2_with fail
    go_ret
    exact ⟨ret_bool HE.out, 0, rfl⟩
  by_cases hy : ys.length = 0
  · have HE := hidI (same_end (k := 0) (by omega) (by omega) (by omega) (show xs.take 0 = ys.take 0 by simp))
    have hI : (0 : Int) < (xs.length : Int) := by omega
    have hI2 : ¬ (0 : Int) < (ys.length : Int) := by omega
    clear a3 a3' hx hy
    go_enter Try.func66, Try.ntmps66
    go_wp2_with fail
    refine wp_loop_rounds 1 ?_
    rw [rounds_succ]
    go_wp2_with fail
    go_ret
    exact ⟨ret_bool HE.out, 0, rfl⟩
  obtain ⟨b, off, cap2, e1, b1, b2, hb, hc⟩ := hv.addr (by omega)
  obtain ⟨b', off', cap2', e1', b1', b2', hb', hc'⟩ := hu.addr (by omega)
  injection e1 with e1 _ e2; injection e1' with e1' _ e2'
  subst e1; subst e2; subst e1'; subst e2'
  have Hc := hidI hc; have Hc' := hidI hc'
  clear hc hc' hv hu a3 a3' b1 b2 b1' b2'
  go_enter Try.func66, Try.ntmps66
  go_wp2_with fail
  go_loopw [5] (fun i wr => ∃ (k m : Nat), k ≤ xs.length ∧ k ≤ ys.length ∧ i = .int .i64 k ∧ Hid (xs.take k = ys.take k) ∧ Hid (wr = w.drewN m)) (fun i _ => xs.length - (intOf i).toNat)
  case atStart => exact ⟨0, 0, by omega, by omega, rfl, hidI (by simp), hidI rfl⟩
  case round =>
    obtain ⟨k, m, hk, hk', rfl, HE, HW⟩ := hrel
    by_cases hlt : k < xs.length
    rotate_left
    · have HF := hidI (same_end hk hk' (by omega) HE.out)
      have hkI : ¬ (k : Int) < (xs.length : Int) := by omega
      go_wp2_with fail
      go_ret
      exact ⟨ret_bool HF.out, m, HW.out⟩
    by_cases hlt' : k < ys.length
    rotate_left
    · have HF := hidI (same_end hk hk' (by omega) HE.out)
      have hkI : (k : Int) < (xs.length : Int) := by omega
      have hkI' : ¬ (k : Int) < (ys.length : Int) := by omega
      go_wp2_with fail
      go_ret
      exact ⟨ret_bool HF.out, m, HW.out⟩
    have hkI : (k : Int) < (xs.length : Int) := by omega
    have hkI' : (k : Int) < (ys.length : Int) := by omega
    have e1 : wr.cell? ⟨b, off + k, none⟩ = some (.int .i64 (xs.getD k 0)) := by rw [HW.out]; exact Hc.out k hlt
    have e2 : wr.cell? ⟨b', off' + k, none⟩ = some (.int .i64 (ys.getD k 0)) := by rw [HW.out]; exact Hc'.out k hlt'
    by_cases he : xs.getD k 0 = ys.getD k 0
    · have HE2 := hidI (show xs.take (k + 1) = ys.take (k + 1) by rw [takeN' hlt, takeN' hlt', HE.out, he])
      rw [← he] at e2
      obtain ⟨T, hT⟩ : ∃ T, T = xs.getD k 0 := ⟨_, rfl⟩
      rw [← hT] at e1 e2
      clear hT he
      go_wp2_with fail
      go_quiet (fail)
      go_wp2_with fail
      go_roundw
      case rel => exact ⟨k + 1, m + nq, by omega, by omega, by go_num, HE2, hidI (by rw [HW.out, World.drewN_drewN])⟩
      case measure => simp [intOf]; omega
    · have HF := hidI (decide_eq_false (show ¬ xs = ys from fun e => he (by rw [e])))
      obtain ⟨T, hT⟩ : ∃ T, T = xs.getD k 0 := ⟨_, rfl⟩
      obtain ⟨U, hU⟩ : ∃ U, U = ys.getD k 0 := ⟨_, rfl⟩
      rw [← hT] at e1 he; rw [← hU] at e2 he
      have hb : (T != U) = true := by simp [he]
      clear hT hU he
      go_wp2_with fail
      go_quiet (fail)
      go_wp2_with fail
      go_ret
      exact ⟨ret_bool HF.out.symm, m + nq, by rw [HW.out, World.drewN_drewN]⟩

set_option maxHeartbeats 1000000 in
theorem spec_l4Has (pss : List (List Int)) (ps : List Int) (v u : Value) (w : World) (hv : IntSS w v pss) (hu : IntS w u ps) :
    Calls Try.prog 68 #[v, u] w fun e w' => e = .returned (.bool (decide (ps ∈ pss))) ∧ ∃ n, w' = w.drewN n := by
  obtain ⟨ao, cap, rfl, c1, c2, c3⟩ := hv
  unfold maxLen at c2
  obtain ⟨_, uo, ucap, hu1, _⟩ := id hu
  subst hu1
  rcases c3 with ⟨rfl, _⟩ | ⟨b, off, rfl, hb, hc⟩
  · show Calls Try.prog 68 #[.slice ao 0 cap, _] w _
    go_enter Try.func68, Try.ntmps68
    go_wp2_with fail
    refine wp_loop_rounds 1 ?_
    rw [rounds_succ]
    go_wp2_with fail
    go_ret
    exact ⟨rfl, 0, rfl⟩
  have Hc := hidI hc; have HU := hidI hu
  clear hc hu
  go_enter Try.func68, Try.ntmps68
  go_wp2_with fail
  go_loopw [5] (fun i wr => ∃ (k m : Nat), k ≤ pss.length ∧ i = .int .i64 k ∧ Hid (ps ∉ pss.take k) ∧ Hid (wr = w.drewN m)) (fun i _ => pss.length - (intOf i).toNat)
  case atStart => exact ⟨0, 0, by omega, rfl, hidI (by simp), hidI rfl⟩
  case round =>
    obtain ⟨k, m, hk, rfl, HE, HW⟩ := hrel
    by_cases hlt : k < pss.length
    · have hkI : (k : Int) < (pss.length : Int) := by omega
      obtain ⟨q, hq⟩ : ∃ q, pss[k]? = some q := ⟨_, List.getElem?_eq_getElem hlt⟩
      obtain ⟨x, hcx, hx⟩ := Hc.out k q hq
      have e1 : wr.cell? ⟨b, off + k, none⟩ = some x := by rw [HW.out]; exact hcx
      have HX := hidI (show IntS wr x q by rw [HW.out]; exact hx.below (bdraw w m))
      have HUw := hidI (show IntS wr (.slice uo ps.length ucap) ps by rw [HW.out]; exact HU.out.below (bdraw w m))
      have hx' := hx
      obtain ⟨_, xo, xc, rfl, _⟩ := hx'
      by_cases he : q = ps
      · have HF := hidI (decide_eq_true (show ps ∈ pss from he ▸ List.mem_of_getElem? hq))
        have HD := hidI (decide_eq_true he)
        clear he hq hcx hx
        go_wp2_with fail
        refine (spec_l4Same q ps _ _ _ HX.out HUw.out).mono ?_; rintro e w5 ⟨rfl, n5, hw5⟩; rw [HD.out]
        have HW5 := hidI (show w5 = w.drewN (m + n5) by rw [hw5, HW.out, World.drewN_drewN]); clear hw5
        go_wp2_with fail
        go_ret
        exact ⟨ret_bool HF.out.symm, _, HW5.out⟩
      · have HE2 := hidI (show ps ∉ pss.take (k + 1) by rw [take_snoc' hq]; simp; exact ⟨HE.out, fun e => he e.symm⟩)
        have HD := hidI (decide_eq_false he)
        clear he hq hcx hx
        go_wp2_with fail
        refine (spec_l4Same q ps _ _ _ HX.out HUw.out).mono ?_; rintro e w5 ⟨rfl, n5, hw5⟩; rw [HD.out]
        have HW5 := hidI (show w5 = w.drewN (m + n5) by rw [hw5, HW.out, World.drewN_drewN]); clear hw5
        go_wp2_with fail
        go_roundw
        case rel => exact ⟨k + 1, _, by omega, by go_num, HE2, HW5⟩
        case measure => simp [intOf]; omega
    · have hk2 : k = pss.length := by omega
      have HF := hidI (decide_eq_false (show ¬ ps ∈ pss by have := HE.out; rw [hk2, List.take_length] at this; exact this))
      have hkI : ¬ (k : Int) < (pss.length : Int) := by omega
      clear hk2 hlt
      go_wp2_with fail
      go_ret
      exact ⟨ret_bool HF.out.symm, m, HW.out⟩

theorem idx_before (zs : List Int) (n : Int) : ∀ k, k < zs.idxOf n → zs.getD k 0 ≠ n := by
  induction zs with
  | nil => intro k hk; simp at hk
  | cons z zs ih =>
    intro k hk
    rw [List.idxOf_cons] at hk
    by_cases e : z = n
    · simp [e] at hk
    · have hb : (z == n) = false := by simp [e]
      rw [hb] at hk
      simp at hk
      cases k with
      | zero => simpa using e
      | succ k => simpa using ih k (by omega)

set_option maxHeartbeats 400000 in
theorem spec_l4Index (zs : List Int) (n : Int) (v : Value) (w : World) (h : IntS w v zs) (hm : n ∈ zs) (hl : zs.length ≤ 4000000) :
    Calls Try.prog 83 #[v, .int .i64 n] w fun e w' => e = .returned (.int .i64 (zs.idxOf n : Nat)) ∧ w = w' := by
  have hil : zs.idxOf n < zs.length := List.idxOf_lt_length_iff.2 hm
  obtain ⟨b, off, cap, rfl, h2, h3, h4, h5⟩ := h.addr (by omega)
  unfold maxLen at h3
  have Hc := hidI h5; clear h5
  have HIX := hidI (show ∀ k, k < zs.idxOf n → zs.getD k 0 ≠ n from fun k hk => idx_before zs n k hk)
  have HIE := hidI (show zs.getD (zs.idxOf n) 0 = n by
    rw [List.getD_eq_getElem?_getD, List.getElem?_eq_getElem hil]
    simp)
  obtain ⟨I, hI⟩ : ∃ I, I = zs.idxOf n := ⟨_, rfl⟩
  rw [← hI] at HIX HIE hil ⊢
  clear hI
  go_enter Try.func83, Try.ntmps83
  go_wp2_with fail
  go_loop [5] (fun i => ∃ k : Nat, k ≤ I ∧ i = .int .i64 k) (fun i => I - (intOf i).toNat)
  case atStart => exact ⟨0, by omega, rfl⟩
  case round =>
    obtain ⟨k, hk, rfl⟩ := hrel
    have hkl : k < zs.length := by omega
    have hkI : (k : Int) < (zs.length : Int) := by omega
    have e1 : w.cell? ⟨b, off + k, none⟩ = some (.int .i64 (zs.getD k 0)) := Hc.out k hkl
    by_cases hlt : k < I
    · have hb : (zs.getD k 0 != n) = true := by simp only [bne_iff_ne]; exact HIX.out k hlt
      obtain ⟨T, hT⟩ : ∃ T, T = zs.getD k 0 := ⟨_, rfl⟩
      rw [← hT] at e1 hb; clear hT
      go_wp2_with fail
      go_round
      case rel => exact ⟨k + 1, by omega, by go_num⟩
      case measure => simp [intOf]; omega
    · obtain rfl : k = I := by omega
      rw [HIE.out] at e1
      have hb : (n != n) = false := by simp
      go_wp2_with fail
      go_ret
      exact ⟨rfl, rfl⟩
end Go.Proofs.Ytmmggbcmailbiaa
