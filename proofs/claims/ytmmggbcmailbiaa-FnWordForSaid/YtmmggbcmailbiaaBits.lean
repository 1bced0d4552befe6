/- Bit operations on numbers from 0 on below 2^63, as natural numbers' own. -/
import Derived.Test.YtmmggbcmailbiaaBase
import Derived.Laws.BitsAllLaws
namespace Go.Proofs.Ytmmggbcmailbiaa
open Go.RowKit

theorem wrap_i64_small (a : Nat) (h : a < 9223372036854775808) : IntKind.i64.wrap (a : Int) = (a : Int) := IntWalk.i64_in _ ⟨by omega, by omega⟩
theorem and_i64 (a b : Nat) (ha : a < 9223372036854775808) (hb : b < 9223372036854775808) : bits .and .i64 (a : Int) (b : Int) = ((a &&& b : Nat) : Int) := by
  have hx : a &&& b < 2 ^ 63 := Nat.and_lt_two_pow _ (by omega)
  show IntKind.i64.wrap ((BitVec.ofInt 64 (a : Int) &&& BitVec.ofInt 64 (b : Int)).toNat : Int) = _
  rw [BitVec.toNat_and, ofInt_u64 a (by omega), ofInt_u64 b (by omega)]
  exact wrap_i64_small _ (by omega)
theorem or_i64 (a b : Nat) (ha : a < 9223372036854775808) (hb : b < 9223372036854775808) : bits .or .i64 (a : Int) (b : Int) = ((a ||| b : Nat) : Int) := by
  have hx : a ||| b < 2 ^ 63 := Nat.or_lt_two_pow (by omega) (by omega)
  show IntKind.i64.wrap ((BitVec.ofInt 64 (a : Int) ||| BitVec.ofInt 64 (b : Int)).toNat : Int) = _
  rw [BitVec.toNat_or, ofInt_u64 a (by omega), ofInt_u64 b (by omega)]
  exact wrap_i64_small _ (by omega)
theorem xor_i64 (a b : Nat) (ha : a < 9223372036854775808) (hb : b < 9223372036854775808) : bits .xor .i64 (a : Int) (b : Int) = ((a ^^^ b : Nat) : Int) := by
  have hx : a ^^^ b < 2 ^ 63 := Nat.xor_lt_two_pow (by omega) (by omega)
  show IntKind.i64.wrap ((BitVec.ofInt 64 (a : Int) ^^^ BitVec.ofInt 64 (b : Int)).toNat : Int) = _
  rw [BitVec.toNat_xor, ofInt_u64 a (by omega), ofInt_u64 b (by omega)]
  exact wrap_i64_small _ (by omega)
/-- a without what is in b. -/
def butNot (a b : Nat) : Nat := a ^^^ (a &&& b)
theorem testBit_butNot (a b i : Nat) : (butNot a b).testBit i = (a.testBit i && !b.testBit i) := by
  unfold butNot; rw [Nat.testBit_xor, Nat.testBit_and]; cases a.testBit i <;> cases b.testBit i <;> rfl
theorem butNot_le (a b : Nat) : butNot a b ≤ a := by
  refine Nat.le_of_testBit ?_
  intro i h; rw [testBit_butNot] at h; simp at h; exact h.1
theorem andNot_i64 (a b : Nat) (ha : a < 9223372036854775808) (hb : b < 9223372036854775808) : bits .andNot .i64 (a : Int) (b : Int) = ((butNot a b : Nat) : Int) := by
  have hx := butNot_le a b
  show IntKind.i64.wrap ((BitVec.ofInt 64 (a : Int) &&& ~~~ BitVec.ofInt 64 (b : Int)).toNat : Int) = _
  have e : (BitVec.ofInt 64 (a : Int) &&& ~~~ BitVec.ofInt 64 (b : Int)).toNat = butNot a b := by
    have ea := ofInt_u64 a (by omega)
    have eb := ofInt_u64 b (by omega)
    refine Nat.eq_of_testBit_eq fun i => ?_
    rw [testBit_butNot, BitVec.toNat_and, Nat.testBit_and, ea, BitVec.toNat_not, eb, show 2 ^ 64 - 1 - b = 2 ^ 64 - (b + 1) by omega, Nat.testBit_two_pow_sub_succ (by omega)]
    by_cases hi : i < 64
    · simp [hi]
    · have : a.testBit i = false := Nat.testBit_lt_two_pow (Nat.lt_of_lt_of_le (show a < 2 ^ 63 by omega) (Nat.pow_le_pow_right (by omega) (by omega)))
      simp [this]
  rw [e]
  exact wrap_i64_small _ (by omega)
theorem pow_lt63 {n : Nat} (h : n < 63) : 2 ^ n < 9223372036854775808 := by
  have : (2 : Nat) ^ n < 2 ^ 63 := Nat.pow_lt_pow_right (by omega) h
  omega
theorem pow_cast (n : Nat) : ((2 ^ n : Nat) : Int) = (2 : Int) ^ n := by simp
theorem shl1 {n : Nat} (h : n < 63) : wrap64 (2 ^ n) = ((2 ^ n : Nat) : Int) := by
  have h1 := pow_lt63 h
  rw [← pow_cast n]
  generalize 2 ^ n = m at *
  rw [IntWalk.wrap64_in _ ⟨by omega, by omega⟩]
/-- (a >> n) & 1 == 1 -/
theorem bit_is (a n : Nat) : (a / 2 ^ n &&& 1) = if a.testBit n then 1 else 0 := by
  rw [Nat.and_one_is_mod, Nat.testBit_eq_decide_div_mod_eq]
  by_cases h : a / 2 ^ n % 2 = 1
  · simp [h]
  · simp [h]; omega
theorem bit_mod (a n : Nat) : (a / 2 ^ n % 2) = if a.testBit n then 1 else 0 := by rw [← Nat.and_one_is_mod, bit_is]
theorem pow_lt32 {n : Nat} (h : n < 5) : 2 ^ n < 32 := Nat.pow_lt_pow_right (a := 2) (m := n) (n := 5) (by decide) h
theorem or_lt32 {a b : Nat} (ha : a < 32) (hb : b < 32) : a ||| b < 32 := Nat.or_lt_two_pow (n := 5) ha hb
theorem pow_lt2_32 {n : Nat} (h : n < 32) : 2 ^ n < 4294967296 := Nat.pow_lt_pow_right (a := 2) (m := n) (n := 32) (by decide) h
theorem or_lt2_32 {a b : Nat} (ha : a < 4294967296) (hb : b < 4294967296) : a ||| b < 4294967296 := Nat.or_lt_two_pow (n := 32) ha hb
theorem xor_lt32 {a b : Nat} (ha : a < 32) (hb : b < 32) : a ^^^ b < 32 := Nat.xor_lt_two_pow (n := 5) ha hb
end Go.Proofs.Ytmmggbcmailbiaa
