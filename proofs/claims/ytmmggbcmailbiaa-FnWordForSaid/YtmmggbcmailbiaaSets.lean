/- The reference's sets: l1Bit, l1Both, l1Either, l1Other. -/
import Derived.Test.YtmmggbcmailbiaaRows
import Derived.Test.YtmmggbcmailbiaaBits
import Derived.Outline
namespace Go.Proofs.Ytmmggbcmailbiaa
open Go.RowKit

def b2 (b : Bool) : Int := if b then 1 else 0
theorem b2_true : b2 true = 1 := rfl
theorem b2_false : b2 false = 0 := rfl

theorem or_add_and : ∀ (n a b : Nat), a ≤ n → (a ||| b) + (a &&& b) = a + b := by
  intro n
  induction n with
  | zero => intro a b h; obtain rfl : a = 0 := by omega
            simp
  | succ n ih =>
    intro a b h
    have h1 := ih (a / 2) (b / 2) (by omega)
    have e1 := Nat.or_div_two (a := a) (b := b)
    have e2 := Nat.and_div_two (a := a) (b := b)
    have m1 : (a ||| b) % 2 + (a &&& b) % 2 = a % 2 + b % 2 := by
      have o := Nat.or_mod_two_eq_one (a := a) (b := b)
      have p := Nat.and_mod_two_eq_one (a := a) (b := b)
      omega
    omega

theorem xor_add_and : ∀ (n a b : Nat), a ≤ n → (a ^^^ b) + 2 * (a &&& b) = a + b := by
  intro n
  induction n with
  | zero => intro a b h; obtain rfl : a = 0 := by omega
            simp
  | succ n ih =>
    intro a b h
    have h1 := ih (a / 2) (b / 2) (by omega)
    have e1 := Nat.xor_div_two (a := a) (b := b)
    have e2 := Nat.and_div_two (a := a) (b := b)
    have m1 : (a ^^^ b) % 2 + 2 * ((a &&& b) % 2) = a % 2 + b % 2 := by
      have o := Nat.xor_mod_two_eq_one (a := a) (b := b)
      have p := Nat.and_mod_two_eq_one (a := a) (b := b)
      omega
    omega

theorem mod_step (x k : Nat) : x % 2 ^ (k + 1) = x % 2 ^ k + (if x.testBit k then 2 ^ k else 0) := by
  rw [Nat.mod_pow_succ, bit_mod]
  by_cases h : x.testBit k = true
  · rw [if_pos h, if_pos h, Nat.mul_one]
  · rw [if_neg h, if_neg h, Nat.mul_zero]

end Go.Proofs.Ytmmggbcmailbiaa
