/- Plain laws of codes that are run. -/
import Derived.Test.YtndbfdgflflfpaaTruth
namespace Go.Proofs.Ytndbfdgflflfpaa

theorem runGo_app (S : Nat) : ∀ (l r : List Int) (st : List Bool), runGo S (l ++ r) st = runGo S r (runGo S l st)
  | [], r, st => rfl
  | s :: l, r, st => by show runGo S (l ++ r) (runStep S s st) = _; rw [runGo_app S l r]; rfl

/-- Running does not touch what lies below. -/
theorem runGo_low (S : Nat) : ∀ (l : List Int) (st r : List Bool), fits l st.length → runGo S l (st ++ r) = runGo S l st ++ r
  | [], st, r, _ => rfl
  | s :: l, st, r, h => by
    unfold fits at h
    obtain ⟨h0, h9, h1, h2, h3⟩ := h
    have key : ∀ st', runStep S s (st ++ r) = st' ++ r → runStep S s st = st' → fits l st'.length → runGo S (s :: l) (st ++ r) = runGo S (s :: l) st ++ r := by
      intro st' e1 e2 hf
      show runGo S l (runStep S s (st ++ r)) = runGo S l (runStep S s st) ++ r
      rw [e1, e2]; exact runGo_low S l st' r hf
    by_cases c6 : s ≤ 6
    · have hf := h1 c6
      by_cases c5 : s = 5
      · exact key (true :: st) (by simp [runStep, c5]) (by simp [runStep, c5]) hf
      · by_cases c66 : s = 6
        · exact key (false :: st) (by simp [runStep, c66]) (by simp [runStep, c66]) hf
        · have e : ∀ q, runStep S s q = S.testBit s.toNat :: q := fun q => by
            unfold runStep; rw [if_neg c5, if_neg c66, if_neg (by omega), if_neg (by omega), if_neg (by omega)]
          exact key (S.testBit s.toNat :: st) (e _) (e _) hf
    · by_cases c7 : s = 7
      · obtain ⟨hl, hf⟩ := h2 c7
        match st, hl with
        | a :: st, _ => exact key ((!a) :: st) (by simp [runStep, c7]) (by simp [runStep, c7]) hf
      · obtain ⟨hl, hf⟩ := h3 (by omega)
        match st, hl with
        | b :: a :: st, _ =>
          obtain rfl | rfl : s = 8 ∨ s = 9 := by omega
          · exact key ((a && b) :: st) (by simp [runStep]) (by simp [runStep]) hf
          · exact key ((a || b) :: st) (by simp [runStep]) (by simp [runStep]) hf

theorem runGo_one (S : Nat) : ∀ (l : List Int) (st : List Bool), fits l st.length → (runGo S l st).length = 1
  | [], st, h => h
  | s :: l, st, h => by
    unfold fits at h
    obtain ⟨h0, h9, h1, h2, h3⟩ := h
    show (runGo S l (runStep S s st)).length = 1
    refine runGo_one S l _ ?_
    by_cases c6 : s ≤ 6
    · have hf := h1 c6
      by_cases c5 : s = 5
      · simpa [runStep, c5] using hf
      · by_cases c66 : s = 6
        · simpa [runStep, c66] using hf
        · unfold runStep; rw [if_neg c5, if_neg c66, if_neg (by omega), if_neg (by omega), if_neg (by omega)]; simpa using hf
    · by_cases c7 : s = 7
      · obtain ⟨hl, hf⟩ := h2 c7
        match st, hl with
        | a :: st, _ => simpa [runStep, c7] using hf
      · obtain ⟨hl, hf⟩ := h3 (by omega)
        match st, hl with
        | b :: a :: st, _ =>
          obtain rfl | rfl : s = 8 ∨ s = 9 := by omega
          · simpa [runStep] using hf
          · simpa [runStep] using hf

theorem runGo_all (S : Nat) (l : List Int) (h : fits l 0) : runGo S l [] = [runAll l S] := by
  obtain ⟨x, hx⟩ := List.length_eq_one_iff.1 (runGo_one S l [] h)
  unfold runAll; rw [hx]; rfl

theorem run_on (S : Nat) (l : List Int) (st : List Bool) (h : fits l 0) : runGo S l st = runAll l S :: st := by
  have := runGo_low S l [] st h
  rw [List.nil_append, runGo_all S l h] at this
  exact this

theorem runAll_not (S : Nat) (l : List Int) (h : fits l 0) : runAll (l ++ [7]) S = !runAll l S := by
  unfold runAll; rw [runGo_app, runGo_all S l h]; simp [runGo, runStep, runAll]

theorem runAll_join (S : Nat) (a b : List Int) (s : Int) (ha : fits a 0) (hb : fits b 0) (hs : s = 8 ∨ s = 9) : runAll (a ++ b ++ [s]) S = if s = 8 then runAll a S && runAll b S else runAll a S || runAll b S := by
  have e : runGo S (a ++ b ++ [s]) [] = runStep S s [runAll b S, runAll a S] := by
    rw [List.append_assoc, runGo_app, run_on S a [] ha, runGo_app, run_on S b _ hb]; rfl
  show (runGo S (a ++ b ++ [s]) []).headD false = _
  rw [e]
  rcases hs with rfl | rfl
  · simp [runStep]
  · simp [runStep]

theorem truth_not (l : List Int) (h : fits l 0) : ∀ k, truthTo (l ++ [7]) k + truthTo l k + 1 = 2 ^ k
  | 0 => by simp [truthTo]
  | k + 1 => by
    have ih := truth_not l h k
    rw [truthTo, truthTo, runAll_not k l h, Nat.pow_succ]
    cases runAll l k <;> simp <;> omega

theorem fits_zero : ∀ (l : List Int) (d : Nat), fits l d → ¬ fits (l ++ [0]) d
  | [], d, h, h' => by
    unfold fits at h; subst h
    have := (show fits [0] 1 from h')
    unfold fits at this
    have := this.2.2.1 (by omega)
    simp [fits] at this
  | s :: l, d, h, h' => by
    replace h' : fits (s :: (l ++ [0])) d := h'
    unfold fits at h h'
    obtain ⟨h0, h9, h1, h2, h3⟩ := h
    obtain ⟨-, -, g1, g2, g3⟩ := h'
    by_cases c6 : s ≤ 6
    · exact fits_zero l _ (h1 c6) (g1 c6)
    · by_cases c7 : s = 7
      · exact fits_zero l _ (h2 c7).2 (g2 c7).2
      · exact fits_zero l _ (h3 (by omega)).2 (g3 (by omega)).2

theorem fits_not {l : List Int} (h : fits l 0) : fits (l ++ [7]) 0 :=
  fits_shift l 0 0 [7] h (by unfold fits; exact ⟨by omega, by omega, fun c => by omega, fun _ => ⟨by omega, rfl⟩, fun c => by omega⟩)

theorem valid_zero {zs : List Int} (h : codeValid zs = true) : codeValid (zs ++ [0]) = false := by
  cases e : codeValid (zs ++ [0]) with
  | false => rfl
  | true => exact absurd ((valid_iff _).1 e).1 (fits_zero zs 0 ((valid_iff _).1 h).1)

theorem valid_not {zs : List Int} (h : codeValid zs = true) (hl : zs.length ≠ 40) : codeValid (zs ++ [7]) = true := by
  obtain ⟨h1, h2⟩ := (valid_iff _).1 h
  exact (valid_iff _).2 ⟨fits_not h1, by simp; omega⟩

theorem truth_join (a b : List Int) (s : Int) (ha : fits a 0) (hb : fits b 0) (hs : s = 8 ∨ s = 9) : truthTo (a ++ b ++ [s]) 32 = if s = 8 then truthTo a 32 &&& truthTo b 32 else truthTo a 32 ||| truthTo b 32 := by
  refine Nat.eq_of_testBit_eq fun i => ?_
  rw [truthTo_testBit, runAll_join i a b s ha hb hs]
  rcases hs with rfl | rfl
  · rw [if_pos rfl, if_pos rfl, Nat.testBit_and, truthTo_testBit, truthTo_testBit]
    cases decide (i < 32) <;> simp
  · rw [if_neg (by omega), if_neg (by omega), Nat.testBit_or, truthTo_testBit, truthTo_testBit]
    cases decide (i < 32) <;> simp

theorem join_some {xs ys z : List Int} {s : Int} (h : codeJoin xs ys s = some z) : (s = 8 ∨ s = 9) ∧ codeValid xs = true ∧ codeValid ys = true ∧ z = xs ++ ys ++ [s] ∧ codeValid z = true := by
  unfold codeJoin at h
  split at h
  · rename_i c
    injection h with h
    obtain ⟨c1, c2, c3, c4⟩ := c
    refine ⟨c1, c2, c3, h.symm, ?_⟩
    subst h
    exact (valid_iff _).2 ⟨fits_join ((valid_iff _).1 c2).1 ((valid_iff _).1 c3).1 (by omega) (by omega), by simp; omega⟩
  · cases h

theorem join_I64 {xs ys : List Int} {s : Int} (hx : ∀ z ∈ xs, I64 z) (hy : ∀ z ∈ ys, I64 z) (hs : I64 s) : ∀ z ∈ (codeJoin xs ys s).getD [], I64 z := by
  cases h : codeJoin xs ys s with
  | none => intro z hz; simp at hz
  | some l =>
    obtain ⟨-, -, -, rfl, -⟩ := join_some h
    intro z hz
    simp only [Option.getD_some, List.mem_append, List.mem_singleton] at hz
    rcases hz with (hz | hz) | rfl
    · exact hx z hz
    · exact hy z hz
    · exact hs
end Go.Proofs.Ytndbfdgflflfpaa
