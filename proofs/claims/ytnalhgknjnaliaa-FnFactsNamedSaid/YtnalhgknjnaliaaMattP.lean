/- Plain: what does not matter can be struck from a state. -/
import Derived.Test.YtnalhgknjnaliaaMatter
namespace Go.Proofs.Ytnalhgknjnaliaa

theorem orIn_bit (zs : List Int) (f : Nat) (i : Nat) : ∀ k S, (orIn zs f k S).testBit i = true ↔ S.testBit i = true ∨ (i = f ∧ ∃ s, s < k ∧ (runAll zs s != runAll zs (s ^^^ 2 ^ f)) = true)
  | 0, S => by simp [orIn]
  | k + 1, S => by
    have ih := orIn_bit zs f i k S
    rw [orIn]
    by_cases c : (runAll zs k != runAll zs (k ^^^ 2 ^ f)) = true
    · rw [if_pos c, Nat.testBit_or, Bool.or_eq_true, ih, Nat.testBit_two_pow, decide_eq_true_eq]
      constructor
      · rintro ((h | ⟨h, s, h1, h2⟩) | h)
        · exact .inl h
        · exact .inr ⟨h, s, by omega, h2⟩
        · exact .inr ⟨h.symm, k, by omega, c⟩
      · rintro (h | ⟨h, s, h1, h2⟩)
        · exact .inl (.inl h)
        · exact .inr h.symm
    · rw [if_neg c, ih]
      constructor
      · rintro (h | ⟨h, s, h1, h2⟩)
        · exact .inl h
        · exact .inr ⟨h, s, by omega, h2⟩
      · rintro (h | ⟨h, s, h1, h2⟩)
        · exact .inl h
        · refine .inr ⟨h, s, ?_, h2⟩
          rcases Nat.lt_or_ge s k with hs | hs
          · exact hs
          · obtain rfl : s = k := by omega
            exact absurd h2 c

theorem mattTo_bit (zs : List Int) (i : Nat) : ∀ f, (mattTo zs f).testBit i = true ↔ i < f ∧ ∃ s, s < 32 ∧ (runAll zs s != runAll zs (s ^^^ 2 ^ i)) = true
  | 0 => by simp [mattTo]
  | f + 1 => by
    rw [mattTo, orIn_bit, mattTo_bit zs i f]
    constructor
    · rintro (⟨h, hs⟩ | ⟨rfl, hs⟩)
      · exact ⟨by omega, hs⟩
      · exact ⟨by omega, hs⟩
    · rintro ⟨h, hs⟩
      rcases Nat.lt_or_ge i f with h1 | h1
      · exact .inl ⟨h1, hs⟩
      · obtain rfl : i = f := by omega
        exact .inr ⟨rfl, hs⟩

/-- The facts from f on that do not matter stay; those below are struck. -/
theorem struck (zs : List Int) (s : Nat) (hs : s < 32) : ∀ f, f ≤ 5 → ∃ t, t < 32 ∧ (∀ i, t.testBit i = if i < f then (s.testBit i && (mattTo zs 5).testBit i) else s.testBit i) ∧ runAll zs t = runAll zs s
  | 0, _ => ⟨s, hs, fun i => by simp, rfl⟩
  | f + 1, hf => by
    obtain ⟨t, ht, hb, hr⟩ := struck zs s hs f (by omega)
    by_cases c : s.testBit f = true ∧ (mattTo zs 5).testBit f = false
    · have hx : t ^^^ 2 ^ f < 32 := xor_lt32 ht (pow_lt32 (by omega))
      refine ⟨t ^^^ 2 ^ f, hx, fun i => ?_, ?_⟩
      · rw [Nat.testBit_xor, hb i, Nat.testBit_two_pow]
        by_cases e : i = f
        · subst e; simp [c.1, c.2]
        · by_cases l : i < f
          · simp [l, show i < f + 1 by omega, Ne.symm e]
          · simp [l, show ¬ i < f + 1 by omega, Ne.symm e]
      · rw [← hr]
        have hm : ¬ (mattTo zs 5).testBit f = true := by rw [c.2]; simp
        rw [mattTo_bit] at hm
        have : ¬ (runAll zs t != runAll zs (t ^^^ 2 ^ f)) = true := fun h => hm ⟨by omega, t, ht, h⟩
        simpa using Eq.symm (by simpa using this)
    · refine ⟨t, ht, fun i => ?_, hr⟩
      rw [hb i]
      by_cases e : i = f
      · subst e
        simp only [Nat.lt_irrefl, if_false, Nat.lt_succ_self, if_true]
        cases h1 : s.testBit i with
        | false => rfl
        | true => cases h2 : (mattTo zs 5).testBit i with
          | false => exact absurd ⟨h1, h2⟩ c
          | true => rfl
      · by_cases l : i < f
        · simp [l, show i < f + 1 by omega]
        · simp [l, show ¬ i < f + 1 by omega]

theorem matter_and (zs : List Int) {s : Nat} (hs : s < 32) : runAll zs (s &&& mattTo zs 5) = runAll zs s := by
  obtain ⟨t, ht, hb, hr⟩ := struck zs s hs 5 (Nat.le_refl 5)
  rw [← hr]
  congr 1
  refine Nat.eq_of_testBit_eq fun i => ?_
  rw [Nat.testBit_and, hb i]
  by_cases l : i < 5
  · rw [if_pos l]
  · rw [if_neg l]
    have h1 : s.testBit i = false := Nat.testBit_lt_two_pow (Nat.lt_of_lt_of_le hs (Nat.pow_le_pow_right (n := 2) (by decide) (show 5 ≤ i by omega)))
    rw [h1]; rfl
end Go.Proofs.Ytnalhgknjnaliaa
