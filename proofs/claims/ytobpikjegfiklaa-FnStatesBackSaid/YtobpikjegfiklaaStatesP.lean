/- The reference's order of loops and the program's give the same set: plain. -/
import Derived.Test.YtobpikjegfiklaaStates
namespace Go.Proofs.Ytobpikjegfiklaa

def orRow (c : Nat → Bool) (p : Nat → Nat) : Nat → Nat → Nat
  | 0, X => X
  | k + 1, X => if c k then orRow c p k X ||| 2 ^ p k else orRow c p k X

theorem orRow_bit (c : Nat → Bool) (p : Nat → Nat) (t : Nat) : ∀ (n X : Nat), (orRow c p n X).testBit t = true ↔ X.testBit t = true ∨ ∃ k, k < n ∧ c k = true ∧ p k = t
  | 0, X => by simp [orRow]
  | n + 1, X => by
    have ih := orRow_bit c p t n X
    rw [orRow]
    constructor
    · intro h
      by_cases hc : c n = true
      · rw [if_pos hc, Nat.testBit_or, Bool.or_eq_true, ih, Nat.testBit_two_pow] at h
        rcases h with (h | ⟨k, h1, h2, h3⟩) | h
        · exact .inl h
        · exact .inr ⟨k, by omega, h2, h3⟩
        · exact .inr ⟨n, by omega, hc, by simpa using h⟩
      · rw [if_neg hc, ih] at h
        rcases h with h | ⟨k, h1, h2, h3⟩
        · exact .inl h
        · exact .inr ⟨k, by omega, h2, h3⟩
    · intro h
      by_cases hc : c n = true
      · rw [if_pos hc, Nat.testBit_or, Bool.or_eq_true, ih, Nat.testBit_two_pow]
        rcases h with h | ⟨k, h1, h2, h3⟩
        · exact .inl (.inl h)
        · by_cases e : k = n
          · subst e; exact .inr (by simpa using h3)
          · exact .inl (.inr ⟨k, by omega, h2, h3⟩)
      · rw [if_neg hc, ih]
        rcases h with h | ⟨k, h1, h2, h3⟩
        · exact .inl h
        · by_cases e : k = n
          · subst e; exact absurd h2 hc
          · exact .inr ⟨k, by omega, h2, h3⟩

/-- Row by row: c and p over two numbers, the first one outside. -/
def orTo (c : Nat → Nat → Bool) (p : Nat → Nat → Nat) (m : Nat) : Nat → Nat
  | 0 => 0
  | k + 1 => orRow (c k) (p k) m (orTo c p m k)

theorem orTo_bit (c : Nat → Nat → Bool) (p : Nat → Nat → Nat) (m t : Nat) : ∀ n, (orTo c p m n).testBit t = true ↔ ∃ k s, k < n ∧ s < m ∧ c k s = true ∧ p k s = t
  | 0 => by simp [orTo]
  | n + 1 => by
    rw [orTo, orRow_bit, orTo_bit c p m t n]
    constructor
    · rintro (⟨k, s, h1, h2, h3, h4⟩ | ⟨s, h2, h3, h4⟩)
      · exact ⟨k, s, by omega, h2, h3, h4⟩
      · exact ⟨n, s, by omega, h2, h3, h4⟩
    · rintro ⟨k, s, h1, h2, h3, h4⟩
      by_cases e : k = n
      · subst e; exact .inr ⟨s, h2, h3, h4⟩
      · exact .inl ⟨k, s, by omega, h2, h3, h4⟩

theorem orTo_swap (c : Nat → Nat → Bool) (p : Nat → Nat → Nat) (m n : Nat) : orTo c p m n = orTo (fun s k => c k s) (fun s k => p k s) n m := by
  refine Nat.eq_of_testBit_eq fun t => ?_
  rw [Bool.eq_iff_iff, orTo_bit, orTo_bit]
  constructor
  · rintro ⟨k, s, h1, h2, h3, h4⟩; exact ⟨s, k, h2, h1, h3, h4⟩
  · rintro ⟨k, s, h1, h2, h3, h4⟩; exact ⟨s, k, h2, h1, h3, h4⟩

theorem nextIn_or (f : Nat → Int) (S : Nat) : ∀ s X, nextIn f S s X = orRow (fun s => 0 ≤ f s && S.testBit s) (fun s => (f s).toNat) s X
  | 0, _ => rfl
  | s + 1, X => by rw [nextIn, orRow, nextIn_or f S s X]
theorem backIn_or (f : Nat → Int) (S : Nat) : ∀ s X, backIn f S s X = orRow (fun s => 0 ≤ f s && S.testBit (f s).toNat) (fun s => s) s X
  | 0, _ => rfl
  | s + 1, X => by rw [backIn, orRow, backIn_or f S s X]

theorem nextTo_or (ds : List DeedM) (S : Nat) : ∀ n, nextTo ds S n = orTo (fun k s => 0 ≤ tabAt ds (k * 32 + s) && S.testBit s) (fun k s => (tabAt ds (k * 32 + s)).toNat) 32 n
  | 0 => rfl
  | n + 1 => by rw [nextTo, orTo, nextTo_or ds S n, nextIn_or]
theorem backTo_or (ds : List DeedM) (S : Nat) : ∀ n, backTo ds S n = orTo (fun k s => 0 ≤ tabAt ds (k * 32 + s) && S.testBit (tabAt ds (k * 32 + s)).toNat) (fun _ s => s) 32 n
  | 0 => rfl
  | n + 1 => by rw [backTo, orTo, backTo_or ds S n, backIn_or]
end Go.Proofs.Ytobpikjegfiklaa
