/- Plain: what leads back. -/
import Derived.Test.YtobpikjegfiklaaFix
namespace Go.Proofs.Ytobpikjegfiklaa

/-- Does one of the first k deeds lead from s into S? -/
def anyB (ds : List DeedM) (S s : Nat) : Nat → Bool
  | 0 => false
  | k + 1 => anyB ds S s k || (decide (0 ≤ tabAt ds (k * 32 + s)) && S.testBit (tabAt ds (k * 32 + s)).toNat)

theorem anyB_iff (ds : List DeedM) (S s : Nat) : ∀ n, anyB ds S s n = true ↔ ∃ k, k < n ∧ 0 ≤ tabAt ds (k * 32 + s) ∧ S.testBit (tabAt ds (k * 32 + s)).toNat = true
  | 0 => by simp [anyB]
  | n + 1 => by
    rw [anyB, Bool.or_eq_true, anyB_iff ds S s n, Bool.and_eq_true, decide_eq_true_eq]
    constructor
    · rintro (⟨k, h1, h2⟩ | h)
      · exact ⟨k, by omega, h2⟩
      · exact ⟨n, by omega, h⟩
    · rintro ⟨k, h1, h2⟩
      rcases Nat.lt_or_ge k n with h | h
      · exact .inl ⟨k, h, h2⟩
      · obtain rfl : k = n := by omega
        exact .inr h2

theorem backTo_bit (ds : List DeedM) (S n s : Nat) : (backTo ds S n).testBit s = true ↔ s < 32 ∧ ∃ k, k < n ∧ 0 ≤ tabAt ds (k * 32 + s) ∧ S.testBit (tabAt ds (k * 32 + s)).toNat = true := by
  rw [backTo_or, orTo_bit]
  constructor
  · rintro ⟨k, s', h1, h2, h3, rfl⟩
    simp only [Bool.and_eq_true, decide_eq_true_eq] at h3
    exact ⟨h2, k, h1, h3⟩
  · rintro ⟨h1, k, h2, h3⟩
    exact ⟨k, s, h2, h1, by simpa only [Bool.and_eq_true, decide_eq_true_eq] using h3, rfl⟩

theorem anyB_back {ds : List DeedM} {S n s : Nat} (hs : s < 32) : anyB ds S s n = (backTo ds S n).testBit s := by
  have h1 := anyB_iff ds S s n
  have h2 := backTo_bit ds S n s
  cases h : anyB ds S s n with
  | true => rw [h] at h1; exact (h2.2 ⟨hs, h1.1 rfl⟩).symm
  | false =>
    cases h' : (backTo ds S n).testBit s with
    | false => rfl
    | true => rw [h] at h1; exact absurd (h1.2 (h2.1 h').2) (by simp)

theorem back_more {ds : List DeedM} (hr : ∀ p, tabAt ds p = -1 ∨ ∃ T : Nat, T < 32 ∧ tabAt ds p = T) (S n : Nat) : backTo ds S n &&& backTo ds 4294967295 n = backTo ds S n := by
  refine Nat.eq_of_testBit_eq fun i => ?_
  rw [Nat.testBit_and]
  cases h : (backTo ds S n).testBit i with
  | false => rfl
  | true =>
    rw [Bool.true_and]
    obtain ⟨h1, k, h2, h3, h4⟩ := (backTo_bit ds S n i).1 h
    refine (backTo_bit ds 4294967295 n i).2 ⟨h1, k, h2, h3, ?_⟩
    rcases hr (k * 32 + i) with e | ⟨T, hT, e⟩
    · rw [e] at h3; exact absurd h3 (by decide)
    · rw [e, Int.toNat_natCast, show (4294967295 : Nat) = 2 ^ 32 - 1 from rfl, Nat.testBit_two_pow_sub_one]; simpa using hT
end Go.Proofs.Ytobpikjegfiklaa
