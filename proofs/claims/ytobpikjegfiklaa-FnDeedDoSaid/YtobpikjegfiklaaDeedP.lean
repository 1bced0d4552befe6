/- Plain: what a deed does to the facts of its sets, and to the others. -/
import Derived.Test.YtobpikjegfiklaaDo
namespace Go.Proofs.Ytobpikjegfiklaa

theorem and_zero_bit {a b : Nat} (h : a &&& b = 0) (i : Nat) : (a.testBit i && b.testBit i) = false := by
  rw [← Nat.testBit_and, h]; simp

theorem sum_or {a b : Nat} (h : a &&& b = 0) : a + b = a ||| b := by
  have := or_add_and a a b (Nat.le_refl _); omega

theorem rest_bit {u : Nat} (hu : u < 32) (i : Nat) : (31 - u).testBit i = (decide (i < 5) && !u.testBit i) := by
  by_cases hi : i < 5
  · rw [decide_eq_true hi, Bool.true_and]
    have key : ∀ u : Fin 32, ∀ i : Fin 5, (31 - u.val).testBit i.val = !u.val.testBit i.val := by decide
    exact key ⟨u, hu⟩ ⟨i, hi⟩
  · rw [decide_eq_false hi, Bool.false_and]
    exact Nat.testBit_lt_two_pow (Nat.lt_of_lt_of_le (show 31 - u < 32 by omega) (Nat.pow_le_pow_right (n := 2) (by decide) (show 5 ≤ i by omega)))

theorem high_bit {u : Nat} (hu : u < 32) {i : Nat} (hi : ¬ i < 5) : u.testBit i = false :=
  Nat.testBit_lt_two_pow (Nat.lt_of_lt_of_le hu (Nat.pow_le_pow_right (n := 2) (by decide) (show 5 ≤ i by omega)))

theorem did_bit (S A B C i : Nat) : (butNot (S ||| A) B ^^^ C).testBit i = (((S.testBit i || A.testBit i) && !B.testBit i) ^^ C.testBit i) := by
  unfold butNot
  rw [Nat.testBit_xor, Nat.testBit_xor, Nat.testBit_and, Nat.testBit_or]
  cases S.testBit i <;> cases A.testBit i <;> cases B.testBit i <;> cases C.testBit i <;> rfl

theorem deed_did {S A B C : Nat} (hS : S < 32) (hA : A < 32) (hB : B < 32) (hC : C < 32) (hab : A &&& B = 0) (hac : A &&& C = 0) (hbc : B &&& C = 0) :
    (butNot (S ||| A) B ^^^ C) &&& A = A ∧ (butNot (S ||| A) B ^^^ C) &&& B = 0 ∧ ((butNot (S ||| A) B ^^^ C) &&& C) + (S &&& C) = C ∧
    A + B + C ≤ 31 ∧ (butNot (S ||| A) B ^^^ C) &&& (31 - (A + B + C)) = S &&& (31 - (A + B + C)) := by
  have h1 := and_zero_bit hab; have h2 := and_zero_bit hac; have h3 := and_zero_bit hbc
  have hAB : A + B = A ||| B := sum_or hab
  have hABC : A + B + C = (A ||| B) ||| C := by
    rw [hAB]; refine sum_or (Nat.eq_of_testBit_eq fun i => ?_)
    rw [Nat.testBit_and, Nat.testBit_or]
    have := h2 i; have := h3 i
    cases ha : A.testBit i <;> cases hb : B.testBit i <;> cases hc : C.testBit i <;> simp_all
  have hlt : (A ||| B) ||| C < 32 := Nat.or_lt_two_pow (n := 5) (Nat.or_lt_two_pow (n := 5) hA hB) hC
  refine ⟨?_, ?_, ?_, by omega, ?_⟩
  · refine Nat.eq_of_testBit_eq fun i => ?_
    rw [Nat.testBit_and, did_bit]
    have := h1 i; have := h2 i
    cases ha : A.testBit i <;> cases hb : B.testBit i <;> cases hc : C.testBit i <;> cases hs : S.testBit i <;> simp_all
  · refine Nat.eq_of_testBit_eq fun i => ?_
    rw [Nat.testBit_and, did_bit]
    have := h1 i; have := h3 i
    cases ha : A.testBit i <;> cases hb : B.testBit i <;> cases hc : C.testBit i <;> cases hs : S.testBit i <;> simp_all
  · have hz : ((butNot (S ||| A) B ^^^ C) &&& C) &&& (S &&& C) = 0 := by
      refine Nat.eq_of_testBit_eq fun i => ?_
      rw [Nat.testBit_and, Nat.testBit_and, Nat.testBit_and, did_bit]
      have := h2 i; have := h3 i
      cases ha : A.testBit i <;> cases hb : B.testBit i <;> cases hc : C.testBit i <;> cases hs : S.testBit i <;> simp_all
    rw [sum_or hz]
    refine Nat.eq_of_testBit_eq fun i => ?_
    rw [Nat.testBit_or, Nat.testBit_and, Nat.testBit_and, did_bit]
    have := h2 i; have := h3 i
    cases ha : A.testBit i <;> cases hb : B.testBit i <;> cases hc : C.testBit i <;> cases hs : S.testBit i <;> simp_all
  · rw [hABC]
    refine Nat.eq_of_testBit_eq fun i => ?_
    rw [Nat.testBit_and, Nat.testBit_and, did_bit, rest_bit hlt, Nat.testBit_or, Nat.testBit_or]
    cases ha : A.testBit i <;> cases hb : B.testBit i <;> cases hc : C.testBit i <;> cases hs : S.testBit i <;> simp_all
end Go.Proofs.Ytobpikjegfiklaa
