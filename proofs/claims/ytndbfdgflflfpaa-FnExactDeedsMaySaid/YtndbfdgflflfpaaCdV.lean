/- impl.CodeValid and spec.CodeValid; what a valid code finds at each step. -/
import Derived.Test.YtndbfdgflflfpaaCdS
namespace Go.Proofs.Ytndbfdgflflfpaa
open Go.RowKit

theorem cdGo_pos : ∀ (l : List Int) (d m : Int), 0 ≤ d → d ≤ m → cdGo l d m = -1 ∨ 0 < cdGo l d m ∧ cdGo l d m ≤ m + l.length
  | [], d, m, h0, h1 => by unfold cdGo; split <;> simp <;> omega
  | s :: l, d, m, h0, h1 => by
    have hl : (s :: l).length = l.length + 1 := rfl
    have key : ∀ d', 0 ≤ d' → d' ≤ d + 1 → cdGo l d' (if m < d' then d' else m) = -1 ∨ 0 < cdGo l d' (if m < d' then d' else m) ∧ cdGo l d' (if m < d' then d' else m) ≤ m + (s :: l).length := by
      intro d' a b
      obtain ⟨M, hM, h2, h3⟩ : ∃ M, M = (if m < d' then d' else m) ∧ d' ≤ M ∧ M ≤ m + 1 := ⟨_, rfl, by split <;> omega, by split <;> omega⟩
      rw [← hM]
      rcases cdGo_pos l d' M a h2 with e | e
      · exact .inl e
      · right; omega
    unfold cdGo
    by_cases c1 : s < 0 ∨ 9 < s
    · rw [if_pos c1]; left; rfl
    · rw [if_neg c1]
      by_cases c2 : s ≤ 6
      · rw [if_pos c2]; exact key _ (by omega) (by omega)
      · rw [if_neg c2]
        by_cases c3 : s = 7
        · rw [if_pos c3]
          by_cases c4 : d < 1
          · rw [if_pos c4]; left; rfl
          · rw [if_neg c4]; exact key _ (by omega) (by omega)
        · rw [if_neg c3]
          by_cases c4 : d < 2
          · rw [if_pos c4]; left; rfl
          · rw [if_neg c4]; exact key _ (by omega) (by omega)

theorem codeDepth_pos (zs : List Int) : codeDepth zs = -1 ∨ 0 < codeDepth zs ∧ codeDepth zs ≤ 40 := by
  unfold codeDepth
  by_cases h : zs.length < 1 ∨ 40 < zs.length
  · rw [if_pos h]; exact .inl rfl
  · rw [if_neg h]
    rcases cdGo_pos zs 0 0 (by omega) (by omega) with e | e
    · exact .inl e
    · right; omega

def codeValid (zs : List Int) : Bool := decide (codeDepth zs ≠ -1)

theorem impl_CodeValid (zs : List Int) (v : Value) (w : World) (h : IntS w v zs) :
    Calls Try.prog 28 #[v] w fun e w' => e = .returned (.bool (codeValid zs)) ∧ w = w' := by
  go_enter Try.func28, Try.ntmps28
  go_wp2_with (go_at_call 57; refine (impl_CodeDepth zs _ _ h).mono ?_; rintro e w' ⟨rfl, rfl⟩)
  go_ret
  exact ⟨ret_bool (by unfold codeValid; by_cases hh : codeDepth zs = -1 <;> simp [hh]), rfl⟩

theorem spec_CodeValid (zs : List Int) (v : Value) (w : World) (h : IntS w v zs) (hlen : zs.length ≤ 4000000) :
    Calls Try.prog 34 #[v] w fun e w' => e = .returned (.bool (codeValid zs)) ∧ w = w' := by
  have HP := hidI (codeDepth_pos zs)
  go_enter Try.func34, Try.ntmps34
  go_wp2_with (go_at_call 62; refine (spec_CodeDepth zs _ _ h hlen).mono ?_; rintro e w' ⟨rfl, rfl⟩)
  go_ret
  exact ⟨ret_bool (by unfold codeValid; have := HP.out; rw [decide_eq_decide]; omega), rfl⟩

/-- The code finds at each step what it takes, from d entries on, and leaves one. -/
def fits : List Int → Nat → Prop
  | [], d => d = 1
  | s :: l, d => 0 ≤ s ∧ s ≤ 9 ∧ (s ≤ 6 → fits l (d + 1)) ∧ (s = 7 → 1 ≤ d ∧ fits l d) ∧ (8 ≤ s → 2 ≤ d ∧ fits l (d - 1))

theorem fits_of_cdGo : ∀ (l : List Int) (d : Nat) (m : Int), cdGo l d m ≠ -1 → fits l d
  | [], d, m, h => by
    unfold cdGo at h; unfold fits
    by_cases h1 : (d : Int) = 1
    · omega
    · rw [if_neg h1] at h; exact absurd rfl h
  | s :: l, d, m, h => by
    unfold cdGo at h; unfold fits
    by_cases c1 : s < 0 ∨ 9 < s
    · rw [if_pos c1] at h; exact absurd rfl h
    · rw [if_neg c1] at h
      refine ⟨by omega, by omega, fun c2 => ?_, fun c3 => ?_, fun c4 => ?_⟩
      · rw [if_pos c2] at h; exact fits_of_cdGo l (d + 1) _ h
      · rw [if_neg (by omega), if_pos c3] at h
        by_cases c5 : (d : Int) < 1
        · rw [if_pos c5] at h; exact absurd rfl h
        · rw [if_neg c5] at h; exact ⟨by omega, fits_of_cdGo l d _ h⟩
      · rw [if_neg (by omega), if_neg (by omega)] at h
        by_cases c5 : (d : Int) < 2
        · rw [if_pos c5] at h; exact absurd rfl h
        · rw [if_neg c5, show (d : Int) - 1 = ((d - 1 : Nat) : Int) by omega] at h; exact ⟨by omega, fits_of_cdGo l (d - 1) _ h⟩

theorem fits_of_valid {zs : List Int} (h : codeValid zs = true) : fits zs 0 ∧ 1 ≤ zs.length ∧ zs.length ≤ 40 := by
  unfold codeValid codeDepth at h
  by_cases c : zs.length < 1 ∨ 40 < zs.length
  · rw [if_pos c] at h; exact absurd h (by decide)
  · rw [if_neg c] at h; exact ⟨fits_of_cdGo zs 0 0 (by simpa using h), by omega, by omega⟩

theorem fits_steps : ∀ (l : List Int) (d : Nat), fits l d → ∀ s ∈ l, 0 ≤ s ∧ s ≤ 9
  | [], _, _, s, hs => by cases hs
  | a :: l, d, h, s, hs => by
    unfold fits at h
    obtain ⟨h0, h9, h1, h2, h3⟩ := h
    cases hs with
    | head => exact ⟨h0, h9⟩
    | tail _ hs =>
      by_cases c1 : a ≤ 6
      · exact fits_steps l _ (h1 c1) s hs
      · by_cases c2 : a = 7
        · exact fits_steps l _ (h2 c2).2 s hs
        · exact fits_steps l _ (h3 (by omega)).2 s hs


theorem cdGo_of_fits : ∀ (l : List Int) (d : Nat) (m : Int), (d : Int) ≤ m → fits l d → cdGo l d m ≠ -1
  | [], d, m, hm, h => by
    unfold fits at h; subst h; unfold cdGo
    rw [if_pos (show ((1 : Nat) : Int) = 1 from rfl)]; omega
  | s :: l, d, m, hm, h => by
    unfold fits at h
    obtain ⟨h0, h9, h1, h2, h3⟩ := h
    unfold cdGo
    rw [if_neg (by omega)]
    by_cases c1 : s ≤ 6
    · rw [if_pos c1]
      exact cdGo_of_fits l (d + 1) _ (by split <;> omega) (h1 c1)
    · rw [if_neg c1]
      by_cases c2 : s = 7
      · rw [if_pos c2, if_neg (by have := (h2 c2).1; omega)]
        exact cdGo_of_fits l d _ (by split <;> omega) (h2 c2).2
      · have h4 := h3 (by omega)
        rw [if_neg c2, if_neg (by omega), show (d : Int) - 1 = ((d - 1 : Nat) : Int) by omega]
        exact cdGo_of_fits l (d - 1) _ (by split <;> omega) h4.2

theorem valid_iff (zs : List Int) : codeValid zs = true ↔ fits zs 0 ∧ zs.length ≤ 40 := by
  constructor
  · intro h; exact ⟨(fits_of_valid h).1, (fits_of_valid h).2.2⟩
  · rintro ⟨h1, h2⟩
    have hne : zs ≠ [] := by rintro rfl; simp [fits] at h1
    have hl : 1 ≤ zs.length := by cases zs; exact absurd rfl hne; simp
    unfold codeValid codeDepth
    rw [if_neg (by omega)]
    simpa using cdGo_of_fits zs 0 0 (by omega) h1

theorem fits_shift : ∀ (l : List Int) (d k : Nat) (r : List Int), fits l d → fits r (1 + k) → fits (l ++ r) (d + k)
  | [], d, k, r, h, hr => by unfold fits at h; subst h; exact hr
  | s :: l, d, k, r, h, hr => by
    unfold fits at h
    obtain ⟨h0, h9, h1, h2, h3⟩ := h
    show fits (s :: (l ++ r)) (d + k)
    unfold fits
    refine ⟨h0, h9, fun c => ?_, fun c => ?_, fun c => ?_⟩
    · have := fits_shift l (d + 1) k r (h1 c) hr
      rwa [show d + 1 + k = d + k + 1 by omega] at this
    · exact ⟨by have := (h2 c).1; omega, fits_shift l d k r (h2 c).2 hr⟩
    · have h4 := h3 c
      have := fits_shift l (d - 1) k r h4.2 hr
      rw [show d - 1 + k = d + k - 1 by omega] at this
      exact ⟨by omega, this⟩

theorem fits_join {xs ys : List Int} {s : Int} (h : fits xs 0) (h' : fits ys 0) (h8 : 8 ≤ s) (h9 : s ≤ 9) : fits (xs ++ ys ++ [s]) 0 := by
  rw [List.append_assoc]
  have h1 : fits [s] (1 + 1) := by
    unfold fits
    exact ⟨by omega, h9, fun c => by omega, fun c => by omega, fun _ => ⟨by omega, rfl⟩⟩
  exact fits_shift xs 0 0 _ h (fits_shift ys 0 1 _ h' h1)

/-- A code with one behind it, and a step behind both. -/
def codeJoin (xs ys : List Int) (s : Int) : Option (List Int) :=
  if (s = 8 ∨ s = 9) ∧ codeValid xs = true ∧ codeValid ys = true ∧ xs.length + ys.length + 1 ≤ 40 then some (xs ++ ys ++ [s]) else none
end Go.Proofs.Ytndbfdgflflfpaa
