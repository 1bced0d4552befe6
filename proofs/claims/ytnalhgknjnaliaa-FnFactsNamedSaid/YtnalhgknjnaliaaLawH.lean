/- The laws' helpers: both, sameInts, hasInt, ascend. -/
import Derived.Test.YtnalhgknjnaliaaInts
import Derived.Test.YtnalhgknjnaliaaBits
import Derived.Test.YtnalhgknjnaliaaSets
import Derived.Deep.QuietTactic
import Derived.BigQuiet
import Derived.Outline
namespace Go.Proofs.Ytnalhgknjnaliaa
open Go.RowKit

theorem half_bit (a k : Nat) : ((a : Int) / 2 ^ k) % 2 = b2 (a.testBit k) := by
  have h1 : ((a : Int) / 2 ^ k) = ((a / 2 ^ k : Nat) : Int) := by simp
  rw [h1, show ((a / 2 ^ k : Nat) : Int) % 2 = ((a / 2 ^ k % 2 : Nat) : Int) by omega, bit_mod]
  unfold b2; by_cases h : a.testBit k = true
  · rw [if_pos h, if_pos h]; rfl
  · rw [if_neg h, if_neg h]; rfl

theorem wrap_sum {O P : Nat} (hO : O < 1099511627776) (hP : P < 1099511627776) : wrap64 ((O : Int) + (P : Int)) = ((O + P : Nat) : Int) := by
  rw [← Int.natCast_add]; exact IntWalk.wrap64_in _ ⟨by omega, by omega⟩

set_option maxHeartbeats 400000 in
theorem laws_both (a b : Nat) (w : World) (ha : a < 1099511627776) (hb : b < 1099511627776) :
    Calls Try.prog 27 #[.int .i64 a, .int .i64 b] w fun e w' => e = .returned (.int .i64 ((a &&& b : Nat) : Int)) ∧ w = w' := by
  have hlt : a &&& b < 1099511627776 := Nat.lt_of_le_of_lt Nat.and_le_left ha
  have HF := hidI (show (a &&& b) % 2 ^ 40 = a &&& b from Nat.mod_eq_of_lt hlt)
  have ga : decide ((0 : Int) ≤ a) = true := decide_eq_true (by omega)
  have gb : decide ((0 : Int) ≤ b) = true := decide_eq_true (by omega)
  go_enter Try.func27, Try.ntmps27
  go_wp2_with fail
  go_loop [5, 6] (fun o i => ∃ k O : Nat, k ≤ 40 ∧ i = .int .i64 k ∧ o = .int .i64 O ∧ Hid (O = (a &&& b) % 2 ^ k)) (fun _ i => 40 - (intOf i).toNat)
  case atStart => exact ⟨0, 0, by omega, rfl, rfl, hidI (by simp [Nat.mod_one])⟩
  case round =>
    obtain ⟨k, O, hk, rfl, rfl, HO⟩ := hrel
    by_cases hk2 : k < 40
    · have hs := shl1 (n := k) (by omega)
      have hp := pow_lt63 (n := k) (by omega)
      have Hst := hidI (mod_step (a &&& b) k)
      have HA := hidI (show (a &&& b).testBit k = (a.testBit k && b.testBit k) from Nat.testBit_and ..)
      have HL : (a &&& b) % 2 ^ (k + 1) < 1099511627776 := Nat.lt_of_le_of_lt (Nat.mod_le _ _) hlt
      have hOl : O < 1099511627776 := by rw [HO.out]; exact Nat.lt_of_le_of_lt (Nat.mod_le _ _) hlt
      have hP40 : 2 ^ k < 1099511627776 := Nat.pow_lt_pow_right (n := 40) (by omega) hk2
      have pa : 0 ≤ (a : Int) / 2 ^ k := Int.ediv_nonneg (by omega) (by exact Int.le_of_lt (Int.pow_pos (by omega)))
      have pb : 0 ≤ (b : Int) / 2 ^ k := Int.ediv_nonneg (by omega) (by exact Int.le_of_lt (Int.pow_pos (by omega)))
      have ea := half_bit a k
      have eb := half_bit b k
      have ea' : ((a : Int) / 2 ^ k).tmod 2 = b2 (a.testBit k) := by rw [Int.tmod_eq_emod_of_nonneg pa]; exact ea
      have eb' : ((b : Int) / 2 ^ k).tmod 2 = b2 (b.testBit k) := by rw [Int.tmod_eq_emod_of_nonneg pb]; exact eb
      obtain ⟨P, hP⟩ : ∃ P : Nat, P = 2 ^ k := ⟨_, rfl⟩
      rw [← hP] at hs hp hP40
      have HWS := hidI (wrap_sum hOl hP40)
      have HP := hidI hP; clear hP HL hlt
      cases ta : a.testBit k
      · rw [ta] at ea ea'
        simp only [b2_false] at ea ea'
        have HT := hidI ta; clear ta
        go_wp2_with fail
        go_round
        case rel => exact ⟨k + 1, O, by omega, by go_num, rfl, hidI (by rw [Hst.out, HA.out, HT.out, HO.out]; rfl)⟩
        case measure => simp [intOf]; omega
      · cases tb : b.testBit k
        · rw [ta] at ea ea'; rw [tb] at eb eb'
          simp only [b2_true, b2_false] at ea ea' eb eb'
          have HT := hidI ta; have HU := hidI tb; clear ta tb
          go_wp2_with fail
          go_round
          case rel => exact ⟨k + 1, O, by omega, by go_num, rfl, hidI (by rw [Hst.out, HA.out, HT.out, HU.out, HO.out]; rfl)⟩
          case measure => simp [intOf]; omega
        · rw [ta] at ea ea'; rw [tb] at eb eb'
          simp only [b2_true] at ea ea' eb eb'
          have HT := hidI ta; have HU := hidI tb; clear ta tb
          go_wp2_with fail
          go_round
          case rel => exact ⟨k + 1, O + P, by omega, by go_num, congrArg (Value.int .i64) HWS.out, hidI (by rw [Hst.out, HA.out, HT.out, HU.out, HO.out, HP.out]; rfl)⟩
          case measure => simp [intOf]; omega
    · obtain rfl : k = 40 := by omega
      go_wp2_with fail
      go_ret
      exact ⟨ret_int (by rw [HO.out, HF.out]), rfl⟩

theorem eq_drop {zs ys : List Int} {k : Nat} {a b : Int} {l m : List Int} (hz : zs.drop k = a :: l) (hy : ys.drop k = b :: m) (h : a ≠ b) : zs ≠ ys := by
  rintro rfl
  rw [hz] at hy
  exact h (List.cons.inj hy).1

theorem take_next {zs ys : List Int} {k : Nat} {z : Int} {l m : List Int} (h : zs.take k = ys.take k) (hz : zs.drop k = z :: l) (hy : ys.drop k = z :: m) : zs.take (k + 1) = ys.take (k + 1) := by
  have e1 : zs.take (k + 1) = zs.take k ++ (zs.drop k).take 1 := by rw [List.take_add]
  have e2 : ys.take (k + 1) = ys.take k ++ (ys.drop k).take 1 := by rw [List.take_add]
  rw [e1, e2, hz, hy, h]; rfl

set_option maxHeartbeats 400000 in
theorem sameInts_any (zs ys : List Int) (v u : Value) (w : World) (h : IntS w v zs) (hu : IntS w u ys) :
    Calls Try.prog 12 #[v, u] w fun e w' => e = .returned (.bool (decide (zs = ys))) ∧ ∃ n, w' = w.drewN n := by
  obtain ⟨hz, ao, cap, rfl, hcap, hmax, hcells⟩ := h
  obtain ⟨hy, ao', cap', rfl, hcap', hmax', hcells'⟩ := hu
  unfold maxLen at hmax hmax'
  by_cases hl : zs.length = ys.length
  · rcases hcells with ⟨rfl, _⟩ | ⟨b, off, rfl, hb, hc⟩
    · obtain rfl : ys = [] := List.eq_nil_of_length_eq_zero hl.symm
      go_enter Try.func12, Try.ntmps12
      go_wp2
      go_rounds 1
      go_ret
      exact ⟨rfl, 0, rfl⟩
    · rcases hcells' with ⟨rfl, _⟩ | ⟨b', off', rfl, hb', hc'⟩
      · obtain rfl : zs = [] := List.eq_nil_of_length_eq_zero hl
        go_enter Try.func12, Try.ntmps12
        go_wp2
        go_rounds 1
        go_ret
        exact ⟨rfl, 0, rfl⟩
      · have HL := hidI hl; clear hl
        have hle : zs.length ≤ ys.length := by rw [HL.out]; exact Nat.le_refl _
        have hge : ys.length ≤ zs.length := by rw [HL.out]; exact Nat.le_refl _
        go_enter Try.func12, Try.ntmps12
        go_wp2
        go_loopw [5] (fun i wr => ∃ k n : Nat, k ≤ zs.length ∧ i = .int .i64 k ∧ Hid (zs.take k = ys.take k) ∧ Hid (wr = w.drewN n)) (fun i _ => zs.length - (intOf i).toNat)
        case atStart => exact ⟨0, 0, by omega, rfl, hidI (by simp), hidI rfl⟩
        case round =>
          obtain ⟨k, n, hk, rfl, HR, HW⟩ := hrel
          obtain ⟨z, Hd, Hg, _⟩ := at_k zs k
          obtain ⟨y, Hd', Hg', _⟩ := at_k ys k
          by_cases hlt : k < zs.length
          · have hlt' : k < ys.length := by omega
            have hcell : wr.cell? ⟨b, off + k, none⟩ = some (.int .i64 z) := by rw [HW.out, ← Hg.out hlt]; simpa using hc k hlt
            have hcell' : wr.cell? ⟨b', off' + k, none⟩ = some (.int .i64 y) := by rw [HW.out, ← Hg'.out hlt']; simpa using hc' k hlt'
            have hk1 : (k : Int) < (zs.length : Int) := by omega
            have hk2 : (k : Int) < (ys.length : Int) := by omega
            have Hc := hidI hc; have Hc' := hidI hc'; clear hc hc'
            by_cases hzy : z = y
            · subst hzy
              go_wp2
              go_quiet (fail)
              go_wp2
              go_roundw
              case rel => exact ⟨k + 1, n + nq, by omega, by go_num, hidI (take_next HR.out (Hd.out hlt) (Hd'.out hlt')), hidI (by rw [HW.out, World.drewN_drewN])⟩
              case measure => simp [intOf]; omega
            · go_wp2
              go_quiet (fail)
              go_wp2
              all_goals first
                | (exfalso; simp_all; done)
                | (go_ret
                   refine ⟨ret_bool ?_, n + nq, by rw [HW.out, World.drewN_drewN]⟩
                   rw [decide_eq_false (eq_drop (Hd.out hlt) (Hd'.out hlt') hzy)])
          · have Hc := hidI hc; have Hc' := hidI hc'; clear hc hc'
            go_wp2
            go_ret
            refine ⟨ret_bool ?_, n, HW.out⟩
            have := HR.out
            rw [List.take_of_length_le (by omega), List.take_of_length_le (by omega)] at this
            simp [this]
  · go_enter Try.func12, Try.ntmps12
    go_wp2
    go_ret
    refine ⟨ret_bool ?_, 0, rfl⟩
    rw [decide_eq_false (fun e => hl (by rw [e]))]


end Go.Proofs.Ytnalhgknjnaliaa
