/- The iteration to a fixed point: plain. -/
import Derived.Test.YtobpikjegfiklaaStatesS
namespace Go.Proofs.Ytobpikjegfiklaa

def fixN (g : Nat → Nat) : Nat → Nat → Nat
  | 0, S => S
  | f + 1, S => if S ||| g S = S then S else fixN g f (S ||| g S)

def fixV (g : Nat → Nat) (S : Nat) : Nat := fixN g (4294967296 - S) S

theorem or_grows {a b : Nat} (h : a ||| b ≠ a) : a < a ||| b := by
  have := Nat.left_le_or (n := a) (m := b)
  omega

theorem fixN_enough (g : Nat → Nat) (hg : ∀ S, S < 4294967296 → g S < 4294967296) : ∀ f f' S, S < 4294967296 → 4294967296 - S ≤ f → 4294967296 - S ≤ f' → fixN g f S = fixN g f' S
  | 0, _, S, h, h1, _ => by omega
  | f + 1, 0, S, h, h1, h2 => by omega
  | f + 1, f' + 1, S, h, h1, h2 => by
    rw [fixN, fixN]
    by_cases e : S ||| g S = S
    · rw [if_pos e, if_pos e]
    · rw [if_neg e, if_neg e]
      have h3 := or_grows e
      have h4 := or_lt2_32 h (hg S h)
      exact fixN_enough g hg f f' _ h4 (by omega) (by omega)

theorem fixV_end {g : Nat → Nat} {S : Nat} (e : S ||| g S = S) : fixV g S = S := by
  unfold fixV
  cases 4294967296 - S with
  | zero => rfl
  | succ f => rw [fixN, if_pos e]

theorem fixV_next {g : Nat → Nat} (hg : ∀ S, S < 4294967296 → g S < 4294967296) {S : Nat} (h : S < 4294967296) (e : S ||| g S ≠ S) : fixV g S = fixV g (S ||| g S) := by
  have h3 := or_grows e
  have h4 := or_lt2_32 h (hg S h)
  unfold fixV
  obtain ⟨f, hf⟩ : ∃ f, 4294967296 - S = f + 1 := ⟨4294967296 - S - 1, by omega⟩
  rw [hf, fixN, if_neg e]
  exact fixN_enough g hg _ _ _ h4 (by omega) (Nat.le_refl _)

theorem orRow_lt (c : Nat → Bool) (p : Nat → Nat) : ∀ n X, (∀ k, c k = true → p k < 32) → X < 4294967296 → orRow c p n X < 4294967296
  | 0, X, _, h => h
  | n + 1, X, hp, h => by
    rw [orRow]
    have ih := orRow_lt c p n X hp h
    by_cases e : c n = true
    · rw [if_pos e]; exact or_lt2_32 ih (pow_lt2_32 (hp n e))
    · rw [if_neg e]; exact ih

theorem nextTo_lt {ds : List DeedM} (hr : ∀ p, tabAt ds p = -1 ∨ ∃ T : Nat, T < 32 ∧ tabAt ds p = T) (S : Nat) : ∀ n, nextTo ds S n < 4294967296
  | 0 => by simp [nextTo]
  | n + 1 => by
    rw [nextTo, nextIn_or]
    refine orRow_lt _ _ _ _ (fun k hk => ?_) (nextTo_lt hr S n)
    rcases hr (n * 32 + k) with h | ⟨T, hT, h⟩
    · simp only [h] at hk; simp at hk
    · simp only [h, Int.toNat_natCast]; exact hT

theorem backIn_lt (f : Nat → Int) (S : Nat) : ∀ s X, s ≤ 32 → X < 4294967296 → backIn f S s X < 4294967296
  | 0, X, _, h => h
  | s + 1, X, hs, h => by
    have ih := backIn_lt f S s X (by omega) h
    rw [backIn]
    split
    · exact or_lt2_32 ih (pow_lt2_32 (by omega))
    · exact ih
theorem backTo_lt {ds : List DeedM} (S : Nat) : ∀ n, backTo ds S n < 4294967296
  | 0 => by simp [backTo]
  | n + 1 => by rw [backTo]; exact backIn_lt _ _ _ _ (Nat.le_refl _) (backTo_lt S n)
end Go.Proofs.Ytobpikjegfiklaa
