/- Plain laws of codes: DoNot behind a code; the depth of a code. -/
import Derived.Test.YtobpikjegfiklaaCdV
namespace Go.Proofs.Ytobpikjegfiklaa

theorem cdGo_more : ∀ (l : List Int) (d m : Int), d ≤ m → cdGo l d m ≠ -1 → cdGo (l ++ [7]) d m = cdGo l d m
  | [], d, m, h, hr => by
    by_cases h1 : d = 1
    · subst h1
      show cdGo [7] 1 m = cdGo [] 1 m
      unfold cdGo
      rw [if_neg (by omega), if_neg (by omega), if_pos rfl, if_neg (by omega), if_pos rfl, if_neg (by omega)]
      unfold cdGo; rw [if_pos rfl]
    · unfold cdGo at hr; rw [if_neg h1] at hr; exact absurd rfl hr
  | s :: l, d, m, h, hr => by
    show cdGo (s :: (l ++ [7])) d m = _
    rw [cdGo] at hr ⊢
    rw [cdGo.eq_2 d m s l]
    split at hr
    · exact absurd rfl hr
    · rename_i c1
      rw [if_neg c1, if_neg c1]
      split at hr
      · rename_i c2
        rw [if_pos c2, if_pos c2]
        exact cdGo_more l _ _ (by split <;> omega) hr
      · rename_i c2
        rw [if_neg c2, if_neg c2]
        split at hr
        · rename_i c3
          rw [if_pos c3, if_pos c3]
          split at hr
          · exact absurd rfl hr
          · rename_i c4
            rw [if_neg c4, if_neg c4]
            exact cdGo_more l _ _ (by split <;> omega) hr
        · rename_i c3
          rw [if_neg c3, if_neg c3]
          split at hr
          · exact absurd rfl hr
          · rename_i c4
            rw [if_neg c4, if_neg c4]
            exact cdGo_more l _ _ (by split <;> omega) hr

theorem cdGo_half : ∀ (l : List Int) (d m r : Int), 0 ≤ d → d ≤ m → cdGo l d m = r → r ≠ -1 → d ≤ l.length + 1 ∧ (r ≤ m ∨ 2 * r ≤ d + l.length + 1)
  | [], d, m, r, h0, h, hr, hn => by
    unfold cdGo at hr
    split at hr
    · subst hr; simp; omega
    · exact absurd hr.symm hn
  | s :: l, d, m, r, h0, h, hr, hn => by
    have hl : ((s :: l).length : Int) = l.length + 1 := by simp
    have key : ∀ d', 0 ≤ d' → d' ≤ d + 1 → d ≤ d' + 1 → cdGo l d' (if m < d' then d' else m) = r → d ≤ (s :: l).length + 1 ∧ (r ≤ m ∨ 2 * r ≤ d + (s :: l).length + 1) := by
      intro d' a b c e
      by_cases hm : m < d'
      · rw [if_pos hm] at e
        obtain ⟨h1, h2⟩ := cdGo_half l d' d' r a (by omega) e hn
        refine ⟨by omega, ?_⟩
        rcases h2 with h2 | h2
        · right; omega
        · right; omega
      · rw [if_neg hm] at e
        obtain ⟨h1, h2⟩ := cdGo_half l d' m r a (by omega) e hn
        refine ⟨by omega, ?_⟩
        rcases h2 with h2 | h2
        · left; omega
        · right; omega
    rw [cdGo] at hr
    split at hr
    · exact absurd hr.symm hn
    · split at hr
      · exact key _ (by omega) (by omega) (by omega) hr
      · split at hr
        · split at hr
          · exact absurd hr.symm hn
          · exact key _ (by omega) (by omega) (by omega) hr
        · split at hr
          · exact absurd hr.symm hn
          · exact key _ (by omega) (by omega) (by omega) hr

theorem depth_half {zs : List Int} (h : codeDepth zs ≠ -1) : 1 ≤ codeDepth zs ∧ 2 * codeDepth zs ≤ zs.length + 1 := by
  refine ⟨by rcases codeDepth_pos zs with e | e; exact absurd e h; omega, ?_⟩
  unfold codeDepth at h ⊢
  split at h
  · exact absurd rfl h
  · rename_i c
    rw [if_neg c]
    rcases (cdGo_half zs 0 0 _ (by omega) (by omega) rfl h).2 with e | e
    · rcases cdGo_pos zs 0 0 (by omega) (by omega) with k | k
      · exact absurd k h
      · omega
    · omega

theorem depth_more {zs : List Int} (h : codeDepth zs ≠ -1) (hl : zs.length ≠ 40) : codeDepth (zs ++ [7]) = codeDepth zs := by
  unfold codeDepth at h ⊢
  split at h
  · exact absurd rfl h
  · rename_i c
    rw [if_neg c, if_neg (by simp; omega)]
    exact cdGo_more zs 0 0 (by omega) h
end Go.Proofs.Ytobpikjegfiklaa
