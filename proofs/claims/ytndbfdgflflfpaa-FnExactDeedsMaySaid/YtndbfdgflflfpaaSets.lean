/- The reference's sets: l1Bit, l1Both, l1Either, l1Other. -/
import Derived.Test.YtndbfdgflflfpaaRows
import Derived.Test.YtndbfdgflflfpaaBits
import Derived.Outline
namespace Go.Proofs.Ytndbfdgflflfpaa
open Go.RowKit

def b2 (b : Bool) : Int := if b then 1 else 0
theorem b2_true : b2 true = 1 := rfl
theorem b2_false : b2 false = 0 := rfl

theorem or_add_and : ∀ (n a b : Nat), a ≤ n → (a ||| b) + (a &&& b) = a + b := by
  intro n
  induction n with
  | zero => intro a b h; obtain rfl : a = 0 := by omega
            simp
  | succ n ih =>
    intro a b h
    have h1 := ih (a / 2) (b / 2) (by omega)
    have e1 := Nat.or_div_two (a := a) (b := b)
    have e2 := Nat.and_div_two (a := a) (b := b)
    have m1 : (a ||| b) % 2 + (a &&& b) % 2 = a % 2 + b % 2 := by
      have o := Nat.or_mod_two_eq_one (a := a) (b := b)
      have p := Nat.and_mod_two_eq_one (a := a) (b := b)
      omega
    omega

theorem xor_add_and : ∀ (n a b : Nat), a ≤ n → (a ^^^ b) + 2 * (a &&& b) = a + b := by
  intro n
  induction n with
  | zero => intro a b h; obtain rfl : a = 0 := by omega
            simp
  | succ n ih =>
    intro a b h
    have h1 := ih (a / 2) (b / 2) (by omega)
    have e1 := Nat.xor_div_two (a := a) (b := b)
    have e2 := Nat.and_div_two (a := a) (b := b)
    have m1 : (a ^^^ b) % 2 + 2 * ((a &&& b) % 2) = a % 2 + b % 2 := by
      have o := Nat.xor_mod_two_eq_one (a := a) (b := b)
      have p := Nat.and_mod_two_eq_one (a := a) (b := b)
      omega
    omega

theorem spec_l1Bit (a k : Nat) (w : World) (_ha : a < 9223372036854775808) (hk : k ≤ 63) :
    Calls Try.prog 84 #[.int .i64 a, .int .i64 k] w fun e w' => e = .returned (.int .i64 (b2 (a.testBit k))) ∧ w = w' := by
  have hb := bit_mod a k
  have hd : a / 2 ^ k ≤ a := Nat.div_le_self _ _
  have HB := hidI hb; clear hb
  go_enter Try.func84, Try.ntmps84
  go_wp2
  go_ret
  refine ⟨ret_int ?_, rfl⟩
  have h1 : ((a : Int) / 2 ^ k) = ((a / 2 ^ k : Nat) : Int) := by simp
  have h2 := HB.out
  rw [h1]
  generalize a / 2 ^ k = q at *
  rw [Int.tmod_eq_emod_of_nonneg (by omega)]
  unfold b2
  by_cases h : a.testBit k = true
  · rw [if_pos h] at h2 ⊢; omega
  · rw [if_neg h] at h2 ⊢; omega

theorem mod_step (x k : Nat) : x % 2 ^ (k + 1) = x % 2 ^ k + (if x.testBit k then 2 ^ k else 0) := by
  rw [Nat.mod_pow_succ, bit_mod]
  by_cases h : x.testBit k = true
  · rw [if_pos h, if_pos h, Nat.mul_one]
  · rw [if_neg h, if_neg h, Nat.mul_zero]

set_option maxHeartbeats 400000 in
theorem spec_l1Both (a b : Nat) (w : World) (ha : a < 4611686018427387904) (hb : b < 4611686018427387904) :
    Calls Try.prog 75 #[.int .i64 a, .int .i64 b] w fun e w' => e = .returned (.int .i64 ((a &&& b : Nat) : Int)) ∧ w = w' := by
  go_enter Try.func75, Try.ntmps75
  go_wp2_with fail
  go_loop [5, 6] (fun o i => ∃ k O : Nat, k ≤ 62 ∧ i = .int .i64 k ∧ o = .int .i64 O ∧ Hid (O = (a &&& b) % 2 ^ k) ∧ O < 4611686018427387904) (fun _ i => 63 - (intOf i).toNat)
  case atStart => exact ⟨0, 0, by omega, rfl, rfl, hidI (by simp [Nat.mod_one]), by omega⟩
  case round =>
    obtain ⟨k, O, hk, rfl, rfl, HO, hO⟩ := hrel
    have hs := shl1 (n := k) (by omega)
    have hp := pow_lt63 (n := k) (by omega)
    have Hst := hidI (mod_step (a &&& b) k)
    have HE := hidI (show a < 2 ^ k ∨ b < 2 ^ k → (a &&& b) % 2 ^ k = (a &&& b) from fun h => Nat.mod_eq_of_lt (by have := Nat.and_le_left (n := a) (m := b); have := Nat.and_le_right (n := a) (m := b); omega))
    have HL := hidI (show (a &&& b) % 2 ^ (k + 1) ≤ a &&& b from Nat.mod_le _ _)
    have hab : a &&& b ≤ a := Nat.and_le_left
    have hk62 : k = 62 → 4611686018427387904 ≤ 2 ^ k := by rintro rfl; decide
    have hpc := pow_cast k
    obtain ⟨P, hP⟩ : ∃ P : Nat, P = 2 ^ k := ⟨_, rfl⟩
    rw [← hP] at hs hp hk62 hpc
    have HP := hidI hP; clear hP
    by_cases h1 : (P : Int) ≤ a
    · by_cases h2 : (P : Int) ≤ b
      · have hk61 : k ≤ 61 := by omega
        clear hk62
        have hpc' := hpc.symm; clear hpc
        have hw2 : wrap64 (P : Int) = P := IntWalk.wrap64_in _ ⟨by omega, by omega⟩
        have Hand := hidI (show (a &&& b).testBit k = (a.testBit k && b.testBit k) from Nat.testBit_and ..)
        cases ea : a.testBit k
        all_goals cases eb : b.testBit k
        all_goals
          have Ha := hidI ea; have Hb := hidI eb; clear ea eb
          have Hadd := hidI Hst.out
          go_wp2_with fail
          refine (spec_l1Bit a k _ (by omega) (by omega)).mono ?_; rintro e w' ⟨rfl, rfl⟩
          rw [Ha.out]; simp only [b2_true, b2_false]
          go_wp2_with fail
          refine (spec_l1Bit b k _ (by omega) (by omega)).mono ?_; rintro e w' ⟨rfl, rfl⟩
          rw [Hb.out]; simp only [b2_true, b2_false]
          go_wp2_with fail
          have hst := Hst.out
          rw [Hand.out, Ha.out, Hb.out] at hst
          have hl := HL.out
          rw [hst] at hl
          simp only [Bool.and_true, Bool.and_false, Bool.false_eq_true, if_true, if_false, Nat.add_zero] at hst hl
          rw [← HO.out] at hst hl
          (try rw [← HP.out] at hst hl)
          go_round
          case rel => exact ⟨k + 1, _, by omega, by go_num, by first | rfl | go_num, hidI hst.symm, by omega⟩
          case measure => simp [intOf]; omega
      · go_wp2_with fail
        go_ret
        exact ⟨ret_int (by rw [HO.out, HE.out (by rw [← HP.out]; omega)]), rfl⟩
    · go_wp2_with fail
      go_ret
      exact ⟨ret_int (by rw [HO.out, HE.out (by rw [← HP.out]; omega)]), rfl⟩

theorem spec_l1Either (a b : Nat) (w : World) (ha : a < 4611686018427387904) (hb : b < 4611686018427387904) :
    Calls Try.prog 88 #[.int .i64 a, .int .i64 b] w fun e w' => e = .returned (.int .i64 ((a ||| b : Nat) : Int)) ∧ w = w' := by
  have HS := hidI (or_add_and a a b (Nat.le_refl _))
  have hle : a &&& b ≤ a := Nat.and_le_left
  go_enter Try.func88, Try.ntmps88
  go_wp2_with (go_at_call 75; refine (spec_l1Both a b _ ha hb).mono ?_; rintro e w' ⟨rfl, rfl⟩)
  go_ret
  have := HS.out
  exact ⟨ret_int (by omega), rfl⟩

theorem spec_l1Other (a b : Nat) (w : World) (ha : a < 4611686018427387904) (hb : b < 4611686018427387904) :
    Calls Try.prog 87 #[.int .i64 a, .int .i64 b] w fun e w' => e = .returned (.int .i64 ((a ^^^ b : Nat) : Int)) ∧ w = w' := by
  have HS := hidI (xor_add_and a a b (Nat.le_refl _))
  have hle : a &&& b ≤ a := Nat.and_le_left
  go_enter Try.func87, Try.ntmps87
  go_wp2_with (go_at_call 75; refine (spec_l1Both a b _ ha hb).mono ?_; rintro e w' ⟨rfl, rfl⟩)
  go_ret
  have := HS.out
  exact ⟨ret_int (by omega), rfl⟩

theorem spec_l1Other_q (a b X : Nat) (w : World) (ha : a < 4611686018427387904) (hb : b < 4611686018427387904) (hX : X = a ^^^ b) :
    Calls Try.prog 87 #[.int .i64 a, .int .i64 b] w fun e w' => e = .returned (.int .i64 X) ∧ w = w' := by
  subst hX; exact spec_l1Other a b w ha hb
end Go.Proofs.Ytndbfdgflflfpaa
