/- permJoin, permTurn, permSame, permIn, PermNone, PermThen, PermBack of the program. -/
import Derived.Test.YtmmggbcmailbiaaGM
import Derived.Test.YtmmggbcmailbiaaMark
import Derived.Outline
namespace Go.Proofs.Ytmmggbcmailbiaa
open Go.RowKit Grp

theorem made_int (n : Nat) (hn : n ≤ 1000) : ∀ w, (Instr.makeSlice 24 (.int .i64 (n : Int)) (.int .i64 (n : Int))).run Try.prog w = .ok (.slice (some ⟨w.heap.size, 0, none⟩) n n) (w.alloc (.cells (madeCells #[.int .i64 0] n) 3)) := fun w =>
  run_make_row' 24 3 (.int .i64 0) 8 Try.underlying24 infoInt rfl .i64 .i64 n (by omega) (by omega) w

/-- A permutation's cells. -/
theorem up_cells {w : World} {v : Value} {n : Nat} {p : Pm} (h : IntS w v (up p)) (hp : IsP n p) (h1 : 1 ≤ n) : ∃ b off cap, v = .slice (some ⟨b, off, none⟩) n cap ∧ n ≤ cap ∧ cap ≤ maxLen ∧ b < w.heap.size ∧ ∀ j, j < n → w.cell? ⟨b, off + j, none⟩ = some (.int .i64 (ap p j : Nat)) := by
  obtain ⟨b, off, cap, rfl, h2, h3, h4, h5⟩ := h.addr (by rw [up_len, hp.len]; exact h1)
  rw [up_len, hp.len] at *
  refine ⟨b, off, cap, rfl, h2, h3, h4, fun j hj => ?_⟩
  rw [h5 j hj, up_getD (by rw [hp.len]; exact hj)]

theorem own_up {w : World} {base g n : Nat} {q : Pm} {f : Nat → Value} (h : w.rowIs g 3 n f) (hq : q.length = n) (hf : ∀ t, t < n → f t = .int .i64 (ap q t : Nat)) (hn : n ≤ 1000) (hb : base ≤ g) : w.ownsRow base 3 1 (.slice (some ⟨g, 0, none⟩) (up q).length (up q).length) (up q).length ((up q).map (Value.int .i64)) := by
  have hl : (up q).length = n := by rw [up_len, hq]
  rw [hl]
  refine own_base (own_of_row h (by simp [hl]) (fun j hj => ?_) (by unfold maxLen; omega)) hb
  rw [hf j hj, List.getElem?_map, up_get]
  unfold ap
  rw [List.getD_eq_getElem?_getD, List.getElem?_eq_getElem (by rw [hq]; exact hj)]
  rfl

set_option maxHeartbeats 400000 in
theorem impl_permJoin (n : Nat) (p q : Pm) (v u : Value) (w : World) (hv : IntS w v (up p)) (hu : IntS w u (up q)) (hp : IsP n p) (hq : IsP n q) (h1 : 1 ≤ n) (h5 : n ≤ 5) :
    Calls Try.prog 70 #[v, u] w fun e w' => GivesL w w' (up (join p q)) e := by
  obtain ⟨b, off, cap, rfl, c1, c2, hb, hc⟩ := up_cells hv hp h1
  obtain ⟨b', off', cap', rfl, c1', c2', hb', hc'⟩ := up_cells hu hq h1
  unfold maxLen at c2 c2'
  have hmk := made_int n (by omega)
  have HR0 := hidI (World.rowIs_made w (.int .i64 0) n 3)
  have HB0 := hidI ((Below.refl w.heap.size w).alloc (Nat.le_refl _) (.cells (madeCells #[.int .i64 0] n) 3))
  have Hc := hidI hc; have Hc' := hidI hc'; have HP := hidI hp; have HQ := hidI hq
  clear hc hc' hv hu hp hq
  go_enter Try.func70, Try.ntmps70
  go_wp2_with fail
  go_loopw [13] (fun i wr => ∃ (k : Nat) (f : Nat → Value), k ≤ n ∧ i = .int .i64 k ∧ Hid (wr.rowIs w.heap.size 3 n f) ∧ Hid (∀ t, t < k → f t = .int .i64 (ap q (ap p t) : Nat)) ∧ Hid (Below w.heap.size w wr)) (fun i _ => n - (intOf i).toNat)
  case atStart => exact ⟨0, _, by omega, rfl, HR0, hidI (fun t ht => by omega), HB0⟩
  case round =>
    clear hmk HR0 HB0
    obtain ⟨k, f, hk, rfl, HR, HF, HB⟩ := hrel
    by_cases hlt : k < n
    · have ht := ap_lt HP.out hlt
      have hkI : (k : Int) < (n : Int) := by omega
      have e1 : wr.cell? ⟨b, off + k, none⟩ = some (.int .i64 (ap p k : Nat)) := (HB.out.cell (p := ⟨b, off + k, none⟩) hb).trans (Hc.out k hlt)
      have e2 : wr.cell? ⟨b', off' + ap p k, none⟩ = some (.int .i64 (ap q (ap p k) : Nat)) := (HB.out.cell (p := ⟨b', off' + ap p k, none⟩) hb').trans (Hc'.out _ ht)
      have e3 : wr.cell? ⟨w.heap.size, k, none⟩ = some (f k) := HR.out.cell hlt
      have e4 : wr.frozen? ⟨w.heap.size, k, none⟩ = false := HR.out.frozen _
      obtain ⟨T, hT⟩ : ∃ T, T = ap p k := ⟨_, rfl⟩
      obtain ⟨U, hU⟩ : ∃ U, U = ap q T := ⟨_, rfl⟩
      rw [← hT] at e1 e2 ht; rw [← hU] at e2
      have HU := hidI (show U = ap q (ap p k) by rw [hU, hT]); clear hT hU
      have htI : (T : Int) < (n : Int) := by omega
      go_wp2_with fail
      go_roundw
      case rel => exact ⟨k + 1, _, by omega, by go_num, hidI (HR.out.set _ _), hidI (fun t ht => by
        by_cases e : t = k
        · subst e; rw [if_pos rfl, HU.out]
        · rw [if_neg e]; exact HF.out t (by omega)), hidI (HB.out.setCell (Nat.le_refl _) _)⟩
      case measure => simp [intOf]; omega
    · have hk2 := hidI (show k = n by omega)
      have hkI : ¬ (k : Int) < (n : Int) := by omega
      clear hlt
      go_wp2_with fail
      go_ret
      refine ⟨_, rfl, ?_, HB.out⟩
      have := own_up (base := w.heap.size) HR.out (isP_join HP.out HQ.out).len (fun t ht => by rw [ap_join _ HP.out ht]; exact HF.out t (by rw [hk2.out]; exact ht)) (by omega) (Nat.le_refl _)
      rw [up_len, (isP_join HP.out HQ.out).len] at this ⊢
      exact this

set_option maxHeartbeats 400000 in
theorem impl_permTurn (n : Nat) (p : Pm) (v : Value) (w : World) (hv : IntS w v (up p)) (hp : IsP n p) (h1 : 1 ≤ n) (h5 : n ≤ 5) :
    Calls Try.prog 71 #[v] w fun e w' => GivesL w w' (up (turn p)) e := by
  obtain ⟨b, off, cap, rfl, c1, c2, hb, hc⟩ := up_cells hv hp h1
  unfold maxLen at c2
  have hmk := made_int n (by omega)
  have HR0 := hidI (World.rowIs_made w (.int .i64 0) n 3)
  have HB0 := hidI ((Below.refl w.heap.size w).alloc (Nat.le_refl _) (.cells (madeCells #[.int .i64 0] n) 3))
  have Hc := hidI hc; have HP := hidI hp
  clear hc hv hp
  go_enter Try.func71, Try.ntmps71
  go_wp2_with fail
  go_loopw [11] (fun i wr => ∃ (k : Nat) (f : Nat → Value), k ≤ n ∧ i = .int .i64 k ∧ Hid (wr.rowIs w.heap.size 3 n f) ∧ Hid (∀ t, t < k → f (ap p t) = .int .i64 (t : Nat)) ∧ Hid (Below w.heap.size w wr)) (fun i _ => n - (intOf i).toNat)
  case atStart => exact ⟨0, _, by omega, rfl, HR0, hidI (fun t ht => by omega), HB0⟩
  case round =>
    clear hmk HR0 HB0
    obtain ⟨k, f, hk, rfl, HR, HF, HB⟩ := hrel
    by_cases hlt : k < n
    · have ht := ap_lt HP.out hlt
      have hkI : (k : Int) < (n : Int) := by omega
      have e1 : wr.cell? ⟨b, off + k, none⟩ = some (.int .i64 (ap p k : Nat)) := (HB.out.cell (p := ⟨b, off + k, none⟩) hb).trans (Hc.out k hlt)
      have e3 : wr.cell? ⟨w.heap.size, ap p k, none⟩ = some (f (ap p k)) := HR.out.cell ht
      have e4 : wr.frozen? ⟨w.heap.size, ap p k, none⟩ = false := HR.out.frozen _
      obtain ⟨T, hT⟩ : ∃ T, T = ap p k := ⟨_, rfl⟩
      rw [← hT] at e1 e3 e4 ht
      have HT := hidI hT; clear hT
      have htI : (T : Int) < (n : Int) := by omega
      go_wp2_with fail
      go_roundw
      case rel => exact ⟨k + 1, _, by omega, by go_num, hidI (HR.out.set _ _), hidI (fun t ht => by
        by_cases e : t = k
        · subst e; rw [if_pos HT.out.symm]
        · rw [if_neg (fun h => e (ap_inj HP.out (by omega) hlt (h.trans HT.out)))]; exact HF.out t (by omega)), hidI (HB.out.setCell (Nat.le_refl _) _)⟩
      case measure => simp [intOf]; omega
    · have hk2 := hidI (show k = n by omega)
      have hkI : ¬ (k : Int) < (n : Int) := by omega
      clear hlt
      go_wp2_with fail
      go_ret
      refine ⟨_, rfl, ?_, HB.out⟩
      have := own_up (base := w.heap.size) HR.out (isP_turn HP.out).len (fun t ht => by
        have e := ap_ap_turn HP.out ht
        rw [← HF.out _ (by rw [hk2.out]; exact ap_lt (isP_turn HP.out) ht), e]) (by omega) (Nat.le_refl _)
      rw [up_len, (isP_turn HP.out).len] at this ⊢
      exact this

set_option maxHeartbeats 400000 in
theorem impl_PermNone (n : Nat) (w : World) (h1 : 1 ≤ n) (h5 : n ≤ 5) :
    Calls Try.prog 49 #[.int .i64 (n : Int)] w fun e w' => GivesL w w' (up (idP n)) e := by
  have hmk := made_int n (by omega)
  have HR0 := hidI (World.rowIs_made w (.int .i64 0) n 3)
  have HB0 := hidI ((Below.refl w.heap.size w).alloc (Nat.le_refl _) (.cells (madeCells #[.int .i64 0] n) 3))
  have hI1 : ¬ (n : Int) < 1 := by omega
  have hI5 : ¬ 5 < (n : Int) := by omega
  go_enter Try.func49, Try.ntmps49
  go_wp2_with fail
  go_loopw [15] (fun i wr => ∃ (k : Nat) (f : Nat → Value), k ≤ n ∧ i = .int .i64 k ∧ Hid (wr.rowIs w.heap.size 3 n f) ∧ Hid (∀ t, t < k → f t = .int .i64 (t : Nat)) ∧ Hid (Below w.heap.size w wr)) (fun i _ => n - (intOf i).toNat)
  case atStart => exact ⟨0, _, by omega, rfl, HR0, hidI (fun t ht => by omega), HB0⟩
  case round =>
    clear hmk HR0 HB0
    obtain ⟨k, f, hk, rfl, HR, HF, HB⟩ := hrel
    by_cases hlt : k < n
    · have hkI : (k : Int) < (n : Int) := by omega
      have e3 : wr.cell? ⟨w.heap.size, k, none⟩ = some (f k) := HR.out.cell hlt
      have e4 : wr.frozen? ⟨w.heap.size, k, none⟩ = false := HR.out.frozen _
      go_wp2_with fail
      go_roundw
      case rel => exact ⟨k + 1, _, by omega, by go_num, hidI (HR.out.set _ _), hidI (fun t ht => by
        by_cases e : t = k
        · subst e; rw [if_pos rfl]
        · rw [if_neg e]; exact HF.out t (by omega)), hidI (HB.out.setCell (Nat.le_refl _) _)⟩
      case measure => simp [intOf]; omega
    · have hk2 := hidI (show k = n by omega)
      have hkI : ¬ (k : Int) < (n : Int) := by omega
      clear hlt
      go_wp2_with fail
      go_ret
      refine ⟨_, rfl, ?_, HB.out⟩
      have := own_up (base := w.heap.size) HR.out (isP_id n).len (fun t ht => by rw [ap_id ht]; exact HF.out t (by rw [hk2.out]; exact ht)) (by omega) (Nat.le_refl _)
      rw [up_len, (isP_id n).len] at this ⊢
      exact this

theorem up_drop {p q : Pm} {n k : Nat} (hp : IsP n p) (hq : IsP n q) (h : ∀ t, t < k → ap p t = ap q t) (hk : k = n) : p = q := pm_ext hp.len hq.len (fun x hx => h x (by omega))

set_option maxHeartbeats 400000 in
theorem impl_permSame (n : Nat) (p q : Pm) (v u : Value) (w : World) (hv : IntS w v (up p)) (hu : IntS w u (up q)) (hp : IsP n p) (hq : IsP n q) (h1 : 1 ≤ n) (h5 : n ≤ 5) :
    Calls Try.prog 63 #[v, u] w fun e w' => e = .returned (.bool (decide (p = q))) ∧ ∃ n, w' = w.drewN n := by
  obtain ⟨b, off, cap, rfl, c1, c2, hb, hc⟩ := up_cells hv hp h1
  obtain ⟨b', off', cap', rfl, c1', c2', hb', hc'⟩ := up_cells hu hq h1
  unfold maxLen at c2 c2'
  have Hc := hidI hc; have Hc' := hidI hc'; have HP := hidI hp; have HQ := hidI hq
  clear hc hc' hv hu hp hq
  go_enter Try.func63, Try.ntmps63
  go_wp2_with fail
  go_loopw [8] (fun i wr => ∃ (k m : Nat), k ≤ n ∧ i = .int .i64 k ∧ Hid (∀ t, t < k → ap p t = ap q t) ∧ Hid (wr = w.drewN m)) (fun i _ => n - (intOf i).toNat)
  case atStart => exact ⟨0, 0, by omega, rfl, hidI (fun t ht => by omega), hidI rfl⟩
  case round =>
    obtain ⟨k, m, hk, rfl, HE, HW⟩ := hrel
    by_cases hlt : k < n
    · have hkI : (k : Int) < (n : Int) := by omega
      have e1 : wr.cell? ⟨b, off + k, none⟩ = some (.int .i64 (ap p k : Nat)) := by rw [HW.out]; exact Hc.out k hlt
      have e2 : wr.cell? ⟨b', off' + k, none⟩ = some (.int .i64 (ap q k : Nat)) := by rw [HW.out]; exact Hc'.out k hlt
      by_cases he : ap p k = ap q k
      · have HE2 := hidI (show ∀ t, t < k + 1 → ap p t = ap q t from fun t ht => by
          by_cases e : t = k
          · subst e; exact he
          · exact HE.out t (by omega))
        rw [← he] at e2
        obtain ⟨T, hT⟩ : ∃ T, T = ap p k := ⟨_, rfl⟩
        rw [← hT] at e1 e2
        clear hT he
        go_wp2_with fail
        go_quiet (fail)
        go_wp2_with fail
        go_roundw
        case rel => exact ⟨k + 1, m + nq, by omega, by go_num, HE2, hidI (by rw [HW.out, World.drewN_drewN])⟩
        case measure => simp [intOf]; omega
      · have HF := hidI (decide_eq_false (show ¬ p = q from fun e => he (by rw [e])))
        obtain ⟨T, hT⟩ : ∃ T, T = ap p k := ⟨_, rfl⟩
        obtain ⟨U, hU⟩ : ∃ U, U = ap q k := ⟨_, rfl⟩
        rw [← hT] at e1 he; rw [← hU] at e2 he
        have hb : ((T : Int) != (U : Int)) = true := by simp; omega
        clear hT hU he
        go_wp2_with fail
        go_quiet (fail)
        go_wp2_with fail
        go_ret
        exact ⟨ret_bool HF.out.symm, m + nq, by rw [HW.out, World.drewN_drewN]⟩
    · have HF := hidI (decide_eq_true (up_drop HP.out HQ.out HE.out (show k = n by omega)))
      have hkI : ¬ (k : Int) < (n : Int) := by omega
      go_wp2_with fail
      go_ret
      exact ⟨ret_bool HF.out.symm, m, HW.out⟩

/-- The cells of a slice of permutations. -/
theorem ups_cell {w : World} {v : Value} {qs : List Pm} (h : IntSS w v (qs.map up)) (h0 : 1 ≤ qs.length) : ∃ b off cap, v = .slice (some ⟨b, off, none⟩) qs.length cap ∧ qs.length ≤ cap ∧ cap ≤ maxLen ∧ b < w.heap.size ∧ ∀ j q, qs[j]? = some q → ∃ u, w.cell? ⟨b, off + j, none⟩ = some u ∧ IntS w u (up q) := by
  obtain ⟨ao, cap, rfl, h1, h2, h3⟩ := h
  rw [List.length_map] at *
  rcases h3 with ⟨h3, _⟩ | ⟨b, off, rfl, h4, h5⟩
  · have : qs = [] := List.map_eq_nil_iff.1 h3
    subst this; simp at h0
  · refine ⟨b, off, cap, rfl, h1, h2, h4, fun j q hq => h5 j (up q) (by rw [List.getElem?_map, hq]; rfl)⟩

set_option maxHeartbeats 400000 in
theorem impl_permIn (n : Nat) (qs : List Pm) (p : Pm) (v u : Value) (w : World) (hv : IntSS w v (qs.map up)) (hu : IntS w u (up p)) (hp : IsP n p) (hq : ∀ q ∈ qs, IsP n q) (h1 : 1 ≤ n) (h5 : n ≤ 5) :
    Calls Try.prog 89 #[v, u] w fun e w' => e = .returned (.bool (decide (p ∈ qs))) ∧ ∃ n, w' = w.drewN n := by
  rcases Nat.eq_zero_or_pos qs.length with h0 | h0
  · obtain rfl : qs = [] := List.eq_nil_of_length_eq_zero h0
    obtain ⟨ao, cap, rfl, c1, c2, _⟩ := hv
    unfold maxLen at c2
    show Calls Try.prog 89 #[.slice ao 0 cap, u] w _
    go_enter Try.func89, Try.ntmps89
    go_wp2_with fail
    refine wp_loop_rounds 1 ?_
    rw [rounds_succ]
    go_wp2_with fail
    go_ret
    exact ⟨rfl, 0, rfl⟩
  obtain ⟨b, off, cap, rfl, c1, c2, hb, hc⟩ := ups_cell hv h0
  unfold maxLen at c2
  have Hc := hidI hc; have HU := hidI hu; have HP := hidI hp; have HQ := hidI hq
  clear hc hv hu hp hq
  go_enter Try.func89, Try.ntmps89
  go_wp2_with fail
  go_loopw [9] (fun i wr => ∃ (k m : Nat), k ≤ qs.length ∧ i = .int .i64 k ∧ Hid (p ∉ qs.take k) ∧ Hid (wr = w.drewN m)) (fun i _ => qs.length - (intOf i).toNat)
  case atStart => exact ⟨0, 0, by omega, rfl, hidI (by simp), hidI rfl⟩
  case round =>
    obtain ⟨k, m, hk, rfl, HE, HW⟩ := hrel
    by_cases hlt : k < qs.length
    · have hkI : (k : Int) < (qs.length : Int) := by omega
      obtain ⟨q, hq⟩ : ∃ q, qs[k]? = some q := ⟨_, List.getElem?_eq_getElem hlt⟩
      obtain ⟨x, hcx, hx⟩ := Hc.out k q hq
      have e1 : wr.cell? ⟨b, off + k, none⟩ = some x := by rw [HW.out]; exact hcx
      have HX := hidI (show IntS wr x (up q) by rw [HW.out]; exact hx.below (bdraw w m))
      have HUw := hidI (show IntS wr u (up p) by rw [HW.out]; exact HU.out.below (bdraw w m))
      have HQk := hidI (HQ.out q (List.mem_of_getElem? hq))
      have hx' := hx
      obtain ⟨_, xo, xc, rfl, _⟩ := hx'
      by_cases he : q = p
      · have HF := hidI (decide_eq_true (show p ∈ qs from he ▸ List.mem_of_getElem? hq))
        have HD := hidI (decide_eq_true he)
        clear he hq hcx hx
        go_wp2_with fail
        refine (impl_permSame n q p _ _ _ HX.out HUw.out HQk.out HP.out h1 h5).mono ?_; rintro e w5 ⟨rfl, n5, hw5⟩; rw [HD.out]
        have HW5 := hidI (show w5 = w.drewN (m + n5) by rw [hw5, HW.out, World.drewN_drewN]); clear hw5
        go_wp2_with fail
        go_ret
        exact ⟨ret_bool HF.out.symm, _, HW5.out⟩
      · have HE2 := hidI (show p ∉ qs.take (k + 1) by rw [take_snoc' hq]; simp; exact ⟨HE.out, fun e => he e.symm⟩)
        have HD := hidI (decide_eq_false he)
        clear he hq hcx hx
        go_wp2_with fail
        refine (impl_permSame n q p _ _ _ HX.out HUw.out HQk.out HP.out h1 h5).mono ?_; rintro e w5 ⟨rfl, n5, hw5⟩; rw [HD.out]
        have HW5 := hidI (show w5 = w.drewN (m + n5) by rw [hw5, HW.out, World.drewN_drewN]); clear hw5
        go_wp2_with fail
        go_roundw
        case rel => exact ⟨k + 1, _, by omega, by go_num, HE2, HW5⟩
        case measure => simp [intOf]; omega
    · have hk2 : k = qs.length := by omega
      have HF := hidI (decide_eq_false (show ¬ p ∈ qs by have := HE.out; rw [hk2, List.take_length] at this; exact this))
      have hkI : ¬ (k : Int) < (qs.length : Int) := by omega
      clear hk2 hlt
      go_wp2_with fail
      go_ret
      exact ⟨ret_bool HF.out.symm, m, HW.out⟩

set_option maxHeartbeats 400000 in
theorem impl_PermThen (n : Nat) (p q : Pm) (v u : Value) (w : World) (hv : IntS w v (up p)) (hu : IntS w u (up q)) (hp : IsP n p) (hq : IsP n q) (h1 : 1 ≤ n) (h5 : n ≤ 5) :
    Calls Try.prog 22 #[v, u] w fun e w' => GivesL w w' (up (join p q)) e := by
  obtain ⟨b, off, cap, rfl, c1, c2, hb, hc⟩ := up_cells hv hp h1
  obtain ⟨b', off', cap', rfl, c1', c2', hb', hc'⟩ := up_cells hu hq h1
  unfold maxLen at c2 c2'
  have HV := hidI (pvalid_up hp h1 h5); have HU := hidI (pvalid_up hq h1 h5)
  have hnn : ((n : Int) != (n : Int)) = false := by simp
  clear hc hc'
  go_enter Try.func22, Try.ntmps22
  go_wp2_with fail
  refine (impl_PermValid (up p) _ _ hv).mono ?_; rintro e w' ⟨rfl, rfl⟩; rw [HV.out]
  go_wp2_with fail
  refine (impl_PermValid (up q) _ _ hu).mono ?_; rintro e w' ⟨rfl, rfl⟩; rw [HU.out]
  go_wp2_with fail
  refine (impl_permJoin n p q _ _ _ hv hu hp hq h1 h5).mono ?_; rintro e w5 ⟨x, rfl, o5, b5⟩
  go_wp2_with fail
  go_ret
  exact ⟨x, rfl, o5, b5⟩

set_option maxHeartbeats 400000 in
theorem impl_PermBack (n : Nat) (p : Pm) (v : Value) (w : World) (hv : IntS w v (up p)) (hp : IsP n p) (h1 : 1 ≤ n) (h5 : n ≤ 5) :
    Calls Try.prog 23 #[v] w fun e w' => GivesL w w' (up (turn p)) e := by
  obtain ⟨b, off, cap, rfl, c1, c2, hb, hc⟩ := up_cells hv hp h1
  have HV := hidI (pvalid_up hp h1 h5)
  clear hc
  go_enter Try.func23, Try.ntmps23
  go_wp2_with fail
  refine (impl_PermValid (up p) _ _ hv).mono ?_; rintro e w' ⟨rfl, rfl⟩; rw [HV.out]
  go_wp2_with fail
  refine (impl_permTurn n p _ _ hv hp h1 h5).mono ?_; rintro e w5 ⟨x, rfl, o5, b5⟩
  go_wp2_with fail
  go_ret
  exact ⟨x, rfl, o5, b5⟩
end Go.Proofs.Ytmmggbcmailbiaa
