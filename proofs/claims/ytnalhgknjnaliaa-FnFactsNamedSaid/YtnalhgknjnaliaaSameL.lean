/- Two slices of ints compared: spec.l4Same and slices.Equal. -/
import Derived.Test.YtnalhgknjnaliaaInts
import Derived.Deep.QuietTactic
import Derived.BigQuiet
namespace Go.Proofs.Ytnalhgknjnaliaa
open Go.RowKit

theorem take_differ {zs ys : List Int} {k : Nat} {a b : Int} {l m : List Int} (hz : zs.drop k = a :: l) (hy : ys.drop k = b :: m) (h : a ≠ b) : zs ≠ ys := by
  rintro rfl
  rw [hz] at hy
  exact h (List.cons.inj hy).1

theorem take_more {zs ys : List Int} {k : Nat} {z : Int} {l m : List Int} (h : zs.take k = ys.take k) (hz : zs.drop k = z :: l) (hy : ys.drop k = z :: m) : zs.take (k + 1) = ys.take (k + 1) := by
  have e1 : zs.take (k + 1) = zs.take k ++ (zs.drop k).take 1 := by rw [List.take_add]
  have e2 : ys.take (k + 1) = ys.take k ++ (ys.drop k).take 1 := by rw [List.take_add]
  rw [e1, e2, hz, hy, h]; rfl

set_option maxHeartbeats 400000 in
theorem spec_l4Same (zs ys : List Int) (v u : Value) (w : World) (h : IntS w v zs) (hu : IntS w u ys) (hl : zs.length ≤ 4000000) (hl2 : ys.length ≤ 4000000) :
    Calls Try.prog 74 #[v, u] w fun e w' => e = .returned (.bool (decide (zs = ys))) ∧ ∃ n, w' = w.drewN n := by
  by_cases hz0 : zs.length = 0
  · obtain rfl := List.eq_nil_of_length_eq_zero hz0
    obtain ⟨_, ao, cap, rfl, hcap, hmax, _⟩ := h
    obtain ⟨_, ao', cap', rfl, hcap', hmax', _⟩ := hu
    have HQ := hidI (show decide (([] : List Int) = ys) = decide ((0 : Int) = ys.length) by
      rcases ys with _ | ⟨y, l⟩
      · rfl
      · rw [decide_eq_false (by simp), decide_eq_false (by simp; omega)])
    clear hz0
    go_enter Try.func74, Try.ntmps74
    go_wp2
    go_rounds 1
    go_ret
    exact ⟨ret_bool (by rw [HQ.out]; first | rfl | (simp; done)), 0, rfl⟩
  by_cases hy0 : ys.length = 0
  · have hp : (0 : Int) < (zs.length : Int) := by omega
    have hn : ((zs.length : Int) == 0) = false := by simp only [beq_eq_false_iff_ne, ne_eq]; omega
    have hz0' : ¬ zs = [] := by rintro rfl; simp at hz0
    have HQ := hidI (show decide (zs = []) = false by rw [decide_eq_false hz0'])
    clear hz0 hz0'
    obtain rfl := List.eq_nil_of_length_eq_zero hy0
    obtain ⟨_, ao, cap, rfl, hcap, hmax, _⟩ := h
    obtain ⟨_, ao', cap', rfl, hcap', hmax', _⟩ := hu

    go_enter Try.func74, Try.ntmps74
    go_wp2
    go_rounds 1
    go_ret
    exact ⟨ret_bool (by rw [HQ.out]), 0, rfl⟩
  obtain ⟨hz, ao, cap, rfl, hcap, hmax, hcells⟩ := h
  obtain ⟨hy, ao', cap', rfl, hcap', hmax', hcells'⟩ := hu
  unfold maxLen at hmax hmax'
  rcases hcells with ⟨rfl, _⟩ | ⟨b, off, rfl, hb, hc⟩
  · exact absurd rfl hz0
  rcases hcells' with ⟨rfl, _⟩ | ⟨b', off', rfl, hb', hc'⟩
  · exact absurd rfl hy0
  clear hz0 hy0
  go_enter Try.func74, Try.ntmps74
  go_wp2_with fail
  go_loopw [5] (fun i wr => ∃ k n : Nat, k ≤ zs.length ∧ k ≤ ys.length ∧ i = .int .i64 k ∧ Hid (zs.take k = ys.take k) ∧ Hid (wr = w.drewN n)) (fun i _ => zs.length - (intOf i).toNat)
  case atStart => exact ⟨0, 0, by omega, by omega, rfl, hidI (by simp), hidI rfl⟩
  case round =>
    obtain ⟨k, n, hk, hk2, rfl, HR, HW⟩ := hrel
    obtain ⟨z, Hd, Hg, _⟩ := at_k zs k
    obtain ⟨y, Hd', Hg', _⟩ := at_k ys k
    by_cases hlt : k < zs.length ∧ k < ys.length
    · obtain ⟨hlt, hlt'⟩ := hlt
      have hcell : wr.cell? ⟨b, off + k, none⟩ = some (.int .i64 z) := by rw [HW.out, ← Hg.out hlt]; simpa using hc k hlt
      have hcell' : wr.cell? ⟨b', off' + k, none⟩ = some (.int .i64 y) := by rw [HW.out, ← Hg'.out hlt']; simpa using hc' k hlt'
      have hk1 : (k : Int) < (zs.length : Int) := by omega
      have hk3 : (k : Int) < (ys.length : Int) := by omega
      have Hc := hidI hc; have Hc' := hidI hc'; clear hc hc'
      by_cases hzy : z = y
      · subst hzy
        go_wp2_with fail
        go_quiet (fail)
        go_wp2_with fail
        refine ⟨?rel, ?measure⟩
        case rel => exact ⟨k + 1, n + nq, by omega, by omega, by go_num, hidI (take_more HR.out (Hd.out hlt) (Hd'.out hlt')), hidI (by rw [HW.out, World.drewN_drewN])⟩
        case measure => simp [intOf]; omega
      · have HZ := hidI (take_differ (Hd.out hlt) (Hd'.out hlt') hzy)
        have hne : (z != y) = true := by simp [hzy]
        clear hzy
        go_wp2_with fail
        go_quiet (fail)
        go_wp2_with fail
        all_goals first
          | (exfalso; simp_all; done)
          | (go_ret
             exact ⟨ret_bool (by rw [decide_eq_false HZ.out]), n + nq, by rw [HW.out, World.drewN_drewN]⟩)
    · have HQ : Hid (decide (zs = ys) = decide ((zs.length : Int) = ys.length)) := hidI (by
        by_cases e : zs.length = ys.length
        · have := HR.out
          rw [List.take_of_length_le (by omega), List.take_of_length_le (by omega)] at this
          rw [decide_eq_true this, decide_eq_true (by omega)]
        · rw [decide_eq_false (by rintro rfl; exact e rfl), decide_eq_false (by omega)])
      have Hc := hidI hc; have Hc' := hidI hc'; clear hc hc'
      rcases Nat.lt_or_ge k zs.length with h1 | h1
      · have h2 : ys.length ≤ k := by omega
        have h3 : (ys.length : Int) ≤ (k : Int) := by omega
        have h4 : (k : Int) < (zs.length : Int) := by omega
        clear hlt
        go_wp2_with fail
        go_ret
        exact ⟨ret_bool (by rw [HQ.out]; first | rfl | (simp; done)), n, HW.out⟩
      · have h3 : (zs.length : Int) ≤ (k : Int) := by omega
        clear hlt
        go_wp2_with fail
        go_ret
        exact ⟨ret_bool (by rw [HQ.out]; first | rfl | (simp; done)), n, HW.out⟩
set_option maxHeartbeats 400000 in
theorem slices_Equal (zs ys : List Int) (v u : Value) (w : World) (h : IntS w v zs) (hu : IntS w u ys) (hl : zs.length ≤ 4000000) (hl2 : ys.length ≤ 4000000) :
    Calls Try.prog 71 #[v, u] w fun e w' => e = .returned (.bool (decide (zs = ys))) ∧ ∃ n, w' = w.drewN n := by
  by_cases hlen : zs.length = ys.length
  rotate_left
  · have HQ := hidI (show decide (zs = ys) = false by rw [decide_eq_false (by rintro rfl; exact hlen rfl)])
    have hne : ((zs.length : Int) != (ys.length : Int)) = true := by simp only [bne_iff_ne, ne_eq]; omega
    obtain ⟨_, ao, cap, rfl, hcap, hmax, _⟩ := h
    obtain ⟨_, ao', cap', rfl, hcap', hmax', _⟩ := hu
    clear hlen
    go_enter Try.func71, Try.ntmps71
    go_wp2_with fail
    go_ret
    exact ⟨ret_bool (by rw [HQ.out]), 0, rfl⟩
  by_cases hz0 : zs.length = 0
  · obtain rfl := List.eq_nil_of_length_eq_zero hz0
    obtain rfl := List.eq_nil_of_length_eq_zero hlen.symm
    obtain ⟨_, ao, cap, rfl, hcap, hmax, _⟩ := h
    obtain ⟨_, ao', cap', rfl, hcap', hmax', _⟩ := hu
    clear hz0 hlen
    go_enter Try.func71, Try.ntmps71
    go_wp2
    go_rounds 1
    go_ret
    exact ⟨rfl, 0, rfl⟩
  obtain ⟨hz, ao, cap, rfl, hcap, hmax, hcells⟩ := h
  obtain ⟨hy, ao', cap', rfl, hcap', hmax', hcells'⟩ := hu
  unfold maxLen at hmax hmax'
  rcases hcells with ⟨rfl, _⟩ | ⟨b, off, rfl, hb, hc⟩
  · exact absurd rfl hz0
  rcases hcells' with ⟨rfl, _⟩ | ⟨b', off', rfl, hb', hc'⟩
  · exact absurd hlen hz0
  clear hz0
  have hne : ((zs.length : Int) != (ys.length : Int)) = false := by simp only [bne_eq_false_iff_eq]; omega
  have HL := hidI hlen; clear hlen
  go_enter Try.func71, Try.ntmps71
  go_wp2_with fail
  go_loopw [13] (fun i wr => ∃ k n : Nat, k ≤ zs.length ∧ i = .int .i64 k ∧ Hid (zs.take k = ys.take k) ∧ Hid (wr = w.drewN n)) (fun i _ => zs.length - (intOf i).toNat)
  case atStart => exact ⟨0, 0, by omega, rfl, hidI (by simp), hidI rfl⟩
  case round =>
    obtain ⟨k, n, hk, rfl, HR, HW⟩ := hrel
    obtain ⟨z, Hd, Hg, _⟩ := at_k zs k
    obtain ⟨y, Hd', Hg', _⟩ := at_k ys k
    by_cases hlt : k < zs.length
    · have hlt' : k < ys.length := by have := HL.out; omega
      have hcell : wr.cell? ⟨b, off + k, none⟩ = some (.int .i64 z) := by rw [HW.out, ← Hg.out hlt]; simpa using hc k hlt
      have hcell' : wr.cell? ⟨b', off' + k, none⟩ = some (.int .i64 y) := by rw [HW.out, ← Hg'.out hlt']; simpa using hc' k hlt'
      have hk1 : (k : Int) < (zs.length : Int) := by omega
      have hk3 : (k : Int) < (ys.length : Int) := by omega
      have Hc := hidI hc; have Hc' := hidI hc'; clear hc hc'
      by_cases hzy : z = y
      · subst hzy
        go_wp2_with fail
        go_quiet (fail)
        go_wp2_with fail
        refine ⟨?rel, ?measure⟩
        case rel => exact ⟨k + 1, n + nq, by omega, by go_num, hidI (take_more HR.out (Hd.out hlt) (Hd'.out hlt')), hidI (by rw [HW.out, World.drewN_drewN])⟩
        case measure => simp [intOf]; omega
      · have HZ := hidI (take_differ (Hd.out hlt) (Hd'.out hlt') hzy)
        have hne2 : (z != y) = true := by simp [hzy]
        clear hzy
        go_wp2_with fail
        go_quiet (fail)
        go_wp2_with fail
        all_goals first
          | (exfalso; simp_all; done)
          | (go_ret
             exact ⟨ret_bool (by rw [decide_eq_false HZ.out]), n + nq, by rw [HW.out, World.drewN_drewN]⟩)
    · have HQ : Hid (decide (zs = ys) = true) := hidI (by
        have := HR.out
        have h2 := HL.out
        rw [List.take_of_length_le (by omega), List.take_of_length_le (by omega)] at this
        rw [decide_eq_true this])
      have Hc := hidI hc; have Hc' := hidI hc'; clear hc hc'
      have h3 : (zs.length : Int) ≤ (k : Int) := by omega
      clear hlt
      go_wp2_with fail
      go_ret
      exact ⟨ret_bool (by rw [HQ.out]), n, HW.out⟩
end Go.Proofs.Ytnalhgknjnaliaa
