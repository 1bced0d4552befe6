/- What is written is read as it was; what is read is never shorter than what is written; plain laws. -/
import Derived.Test.YtndbfdgflflfpaaTextP
namespace Go.Proofs.Ytndbfdgflflfpaa

def parL (b : Bool) (l : List Nat) : List Nat := if b then 40 :: (l ++ [41]) else l

theorem txt_parL (c : Cond) (k : Nat) (hk : k ≤ 3) : txt c k = parL (decide (bind' c < k)) (txt c 0) := by
  match c with
  | .one s => rw [decide_eq_false (by show ¬ 3 < k; omega)]; rfl
  | .neg c => rw [decide_eq_false (by show ¬ 3 < k; omega)]; rfl
  | .two s l h =>
    show txt (.two s l h) k = parL (decide ((if s = 8 then 2 else 1) < k)) (txt (.two s l h) 0)
    unfold txt
    rw [if_neg (Nat.not_lt_zero _)]
    by_cases e : (if s = 8 then 2 else 1) < k
    · rw [if_pos e, decide_eq_true e]; rfl
    · rw [if_neg e, decide_eq_false e]; rfl

theorem parL_len (b : Bool) (l : List Nat) : l.length ≤ (parL b l).length ∧ (parL b l).length ≤ l.length + 2 := by
  unfold parL; split <;> simp <;> omega

theorem txt_le (c : Cond) {j k : Nat} (hj : j ≤ k) (hk : k ≤ 3) : (txt c j).length ≤ (txt c k).length := by
  rw [txt_parL c j (by omega), txt_parL c k hk]
  by_cases h : bind' c < j
  · rw [decide_eq_true h, decide_eq_true (by omega : bind' c < k)]; exact Nat.le_refl _
  · rw [decide_eq_false h]; exact (parL_len _ _).1

theorem txt_le2 (c : Cond) {j k : Nat} (hj : j ≤ 3) (hk : k ≤ 3) : (txt c j).length ≤ (txt c k).length + 2 := by
  rw [txt_parL c j hj, txt_parL c k hk]
  have h1 := (parL_len (decide (bind' c < j)) (txt c 0)).2
  have h2 := (parL_len (decide (bind' c < k)) (txt c 0)).1
  omega

def lev (st : Int) : Nat := if st = 8 then 2 else 1

theorem txt_two (st : Int) (t h : Cond) : (txt (.two st t h) (lev st)).length = (txt t (lev st)).length + 1 + (txt h (lev st + 1)).length := by
  rw [txt]
  rw [if_neg (by unfold lev; omega)]
  simp [lev]; omega

theorem many_txt {p : Rd} {st : Int} (hp : ∀ s t r, p s = some (t, r) → (txt t (lev st + 1)).length + r.length ≤ s.length) (sign : Nat) : ∀ (n : Nat) (t : Cond) (s : List Nat) (u : Cond) (r : List Nat), many p sign st n t s = some (u, r) → (txt u (lev st)).length + r.length ≤ (txt t (lev st)).length + s.length
  | 0, _, _, _, _, h => by cases h
  | n + 1, t, [], u, r, h => by
    injection h with h; injection h with h1 h2; subst h1; subst h2; exact Nat.le_refl _
  | n + 1, t, c :: s, u, r, h => by
    unfold many at h
    by_cases hc : c = sign
    · rw [if_pos hc] at h
      cases e : p s with
      | none => rw [e] at h; cases h
      | some x =>
        obtain ⟨v, r'⟩ := x
        rw [e] at h
        have h1 := hp s v r' e
        have h2 := many_txt hp sign n _ _ _ _ h
        rw [txt_two] at h2
        simp only [List.length_cons]
        omega
    · rw [if_neg hc] at h
      injection h with h; injection h with h1 h2; subst h1; subst h2; exact Nat.le_refl _

theorem great_txt {p : Rd} {st : Int} (hp : ∀ s t r, p s = some (t, r) → (txt t (lev st + 1)).length + r.length ≤ s.length) (sign : Nat) (s : List Nat) (t : Cond) (r : List Nat) (h : great p sign st s = some (t, r)) : (txt t (lev st)).length + r.length ≤ s.length := by
  unfold great at h
  cases e : p s with
  | none => rw [e] at h; cases h
  | some x =>
    obtain ⟨v, r'⟩ := x
    rw [e] at h
    have h1 := hp s v r' e
    have h2 := many_txt hp sign _ _ _ _ _ h
    have h3 := txt_le v (j := lev st) (k := lev st + 1) (by omega) (by unfold lev; split <;> omega)
    omega

theorem small_txt : ∀ (f : Nat) (s : List Nat) (t : Cond) (r : List Nat), small f s = some (t, r) → (txt t 3).length + r.length ≤ s.length
  | 0, _, _, _, h => by cases h
  | f + 1, [], t, r, h => by cases h
  | f + 1, c :: s, t, r, h => by
    unfold small at h
    cases e : leafOf c with
    | some z =>
      rw [e] at h
      injection h with h; injection h with h1 h2; subst h1; subst h2
      simp [txt]; omega
    | none =>
      rw [e] at h
      dsimp only at h
      by_cases h33 : c = 33
      · rw [if_pos h33] at h
        cases e2 : small f s with
        | none => rw [e2] at h; cases h
        | some x =>
          obtain ⟨v, r'⟩ := x
          rw [e2] at h
          injection h with h; injection h with h1 h2; subst h1; subst h2
          have := small_txt f s v r' e2
          simp [txt]; omega
      · rw [if_neg h33] at h
        by_cases h40 : c = 40
        · rw [if_pos h40] at h
          split at h
          · rename_i t' r' e2
            injection h with h; injection h with h1 h2; subst h1; subst h2
            have h1 := great_txt (st := 9) (fun s t r h => great_txt (st := 8) (fun s t r h => small_txt f s t r h) 38 s t r h) 124 _ _ _ e2
            have h2 := txt_le2 t' (j := 3) (k := 1) (by omega) (by omega)
            have e1 : lev 9 = 1 := rfl
            rw [e1] at h1
            simp only [List.length_cons] at h1 ⊢
            omega
          · cases h
        · rw [if_neg h40] at h; cases h

theorem whole_txt {f : Nat} {s : List Nat} {t : Cond} {r : List Nat} (h : whole f s = some (t, r)) : (txt t 1).length + r.length ≤ s.length :=
  great_txt (st := 9) (fun s t r h => great_txt (st := 8) (fun s t r h => small_txt f s t r h) 38 s t r h) 124 _ _ _ h

/-- What is read is never shorter than what is written. -/
theorem read_long {s : List Nat} {zs : List Int} (h : readCode s = some zs) : ∃ t : Cond, t.Ok ∧ t.steps = zs ∧ zs.length ≤ 40 ∧ (txt t 0).length ≤ s.length := by
  unfold readCode at h
  by_cases hs : s.length ≤ 199
  · rw [if_pos hs] at h
    split at h
    · rename_i t e
      split at h
      · rename_i hl
        injection h with h
        subst h
        have h1 := whole_txt e
        have h2 := txt_le t (j := 0) (k := 1) (by omega) (by omega)
        exact ⟨t, (whole_good _ _ _ _ e).2.1, rfl, hl, by simp at h1; omega⟩
      · cases h
    · cases h
  · rw [if_neg hs] at h; cases h

/-! What stands behind a closing bracket is not looked at. -/

theorem many_stop {p : Rd} (sign : Nat) (hsg : sign ≠ 41) (st : Int) (y : List Nat) (hp : ∀ s t r, p s = some (t, r) → p (s ++ 41 :: y) = some (t, r ++ 41 :: y)) (hg : Good p) :
    ∀ (n : Nat) (t : Cond) (s : List Nat) (u : Cond) (r : List Nat), many p sign st n t s = some (u, r) → many p sign st (s.length + y.length + 2) t (s ++ 41 :: y) = some (u, r ++ 41 :: y)
  | 0, _, _, _, _, h => by cases h
  | n + 1, t, [], u, r, h => by
    injection h with h; injection h with h1 h2; subst h1; subst h2
    show many p sign st (0 + y.length + 1 + 1) t (41 :: y) = _
    unfold many; rw [if_neg (fun e => hsg e.symm)]; rfl
  | n + 1, t, c :: s, u, r, h => by
    unfold many at h
    show many p sign st ((c :: s).length + y.length + 1 + 1) t (c :: (s ++ 41 :: y)) = _
    unfold many
    by_cases hc : c = sign
    · rw [if_pos hc] at h ⊢
      cases e : p s with
      | none => rw [e] at h; cases h
      | some x =>
        obtain ⟨v, r'⟩ := x
        rw [e] at h
        rw [hp s v r' e]
        dsimp only at h ⊢
        have hl := (hg s v r' e).1
        have ih := many_stop sign hsg st y hp hg n _ _ _ _ h
        rw [← ih]
        exact many_fuel hg sign st _ _ _ _ (by simp; omega) (by simp; omega)
    · rw [if_neg hc] at h ⊢
      injection h with h; injection h with h1 h2; subst h1; subst h2; rfl

theorem great_stop {p : Rd} (sign : Nat) (hsg : sign ≠ 41) (st : Int) (y : List Nat) (hp : ∀ s t r, p s = some (t, r) → p (s ++ 41 :: y) = some (t, r ++ 41 :: y)) (hg : Good p) (s : List Nat) (t : Cond) (r : List Nat) (h : great p sign st s = some (t, r)) :
    great p sign st (s ++ 41 :: y) = some (t, r ++ 41 :: y) := by
  unfold great at h ⊢
  cases e : p s with
  | none => rw [e] at h; cases h
  | some x =>
    obtain ⟨v, r'⟩ := x
    rw [e] at h
    rw [hp s v r' e]
    dsimp only at h ⊢
    rw [← many_stop sign hsg st y hp hg _ _ _ _ _ h]
    exact many_fuel hg sign st _ _ _ _ (by simp) (by simp; omega)

theorem small_stop (y : List Nat) : ∀ (f : Nat) (s : List Nat) (t : Cond) (r : List Nat), small f s = some (t, r) → small f (s ++ 41 :: y) = some (t, r ++ 41 :: y)
  | 0, _, _, _, h => by cases h
  | f + 1, [], t, r, h => by cases h
  | f + 1, c :: s, t, r, h => by
    show small (f + 1) (c :: (s ++ 41 :: y)) = _
    unfold small at h ⊢
    cases e : leafOf c with
    | some z =>
      rw [e] at h
      injection h with h; injection h with h1 h2; subst h1; subst h2; rfl
    | none =>
      rw [e] at h
      dsimp only at h ⊢
      by_cases h33 : c = 33
      · rw [if_pos h33] at h ⊢
        cases e2 : small f s with
        | none => rw [e2] at h; cases h
        | some x =>
          obtain ⟨v, r'⟩ := x
          rw [e2] at h
          injection h with h; injection h with h1 h2; subst h1; subst h2
          rw [small_stop y f s v r' e2]
      · rw [if_neg h33] at h ⊢
        by_cases h40 : c = 40
        · rw [if_pos h40] at h ⊢
          split at h
          · rename_i t' r' e2
            injection h with h; injection h with h1 h2; subst h1; subst h2
            have := great_stop 124 (by decide) 9 y (great_stop 38 (by decide) 8 y (small_stop y f) (small_good f)) (mid_good f) _ _ _ e2
            rw [this]; rfl
          · cases h
        · rw [if_neg h40] at h; cases h

theorem whole_stop (y : List Nat) {f : Nat} {s : List Nat} {t : Cond} {r : List Nat} (h : whole f s = some (t, r)) : whole f (s ++ 41 :: y) = some (t, r ++ 41 :: y) :=
  great_stop 124 (by decide) 9 y (great_stop 38 (by decide) 8 y (small_stop y f) (small_good f)) (mid_good f) _ _ _ h

/-- Brackets around all change nothing. -/
theorem read_brackets {s : List Nat} {zs : List Int} (hs : s.length ≤ 197) (h : readCode s = some zs) : readCode (40 :: (s ++ [41])) = some zs := by
  obtain ⟨t, h1, h2, rfl⟩ := (read_iff 200 (by omega) (by omega) zs).1 h
  refine read_big 201 (by simp; omega) ?_ h2
  have h3 := whole_stop [] h1
  have h4 : small 201 (40 :: (s ++ [41])) = some (t, []) := by
    unfold small
    have e : leafOf 40 = none := by decide
    rw [e]
    dsimp only
    rw [if_neg (by decide), if_pos rfl]
    unfold whole at h3
    rw [h3]; rfl
  show great (great (small 201) 38 8) 124 9 _ = _
  have h5 : great (small 201) 38 8 (40 :: (s ++ [41])) = some (t, []) := by unfold great; rw [h4]; rfl
  unfold great
  unfold great at h5
  rw [h5]; rfl

/-! What is written is read as it was. -/

theorem chr_leaf {s : Int} (h0 : 0 ≤ s) (h6 : s ≤ 6) : leafOf (chr s) = some s := by
  have hs : s = 0 ∨ s = 1 ∨ s = 2 ∨ s = 3 ∨ s = 4 ∨ s = 5 ∨ s = 6 := by omega
  rcases hs with rfl | rfl | rfl | rfl | rfl | rfl | rfl <;> decide

abbrev moreM (f : Nat) (t : Cond) (y : List Nat) := many (small f) 38 8 (y.length + 1) t y
abbrev moreW (f : Nat) (t : Cond) (y : List Nat) := many (mid f) 124 9 (y.length + 1) t y

theorem bind_pos (t : Cond) : ¬ bind' t < 1 := by
  cases t with
  | one s => simp [bind']
  | neg c => simp [bind']
  | two s a b => simp only [bind']; split <;> omega

theorem mid_of {f : Nat} {t : Cond} {s y : List Nat} (h : small f s = some (t, y)) : mid f s = moreM f t y := by
  unfold mid great; rw [h]

theorem whole_of {f : Nat} {t : Cond} {s y : List Nat} (h : mid f s = some (t, y)) : whole f s = moreW f t y := by
  show great (mid f) 124 9 s = _
  unfold great; rw [h]

theorem written (t : Cond) : t.Ok → ∀ f, (2 * t.steps.length ≤ f → (∀ x, small f (txt t 3 ++ x) = some (t, x)) ∧ (∀ y, mid f (txt t 2 ++ y) = moreM f t y)) ∧
    (2 * t.steps.length ≤ f + 1 → ∀ y, y.head? ≠ some 38 → whole f (txt t 1 ++ y) = moreW f t y) := by
  induction t with
  | one s =>
    intro hk f
    have h1 : 0 ≤ s ∧ s ≤ 6 := hk
    have hS : 1 ≤ f → ∀ x, small f ([chr s] ++ x) = some (.one s, x) := fun hf x => by
      obtain ⟨g, rfl⟩ : ∃ g, f = g + 1 := ⟨f - 1, by omega⟩
      show small (g + 1) (chr s :: x) = _
      unfold small; rw [chr_leaf h1.1 h1.2]
    have hl : (Cond.one s).steps.length = 1 := rfl
    rw [hl]
    exact ⟨fun hf => ⟨hS (by omega), fun y => mid_of (hS (by omega) y)⟩, fun hf y hy => whole_of ((mid_of (hS (by omega) y)).trans (many_none _ hy))⟩
  | neg c ih =>
    intro hk f
    have hl : (Cond.neg c).steps.length = c.steps.length + 1 := by simp [Cond.steps]
    have hS : 2 * c.steps.length + 1 ≤ f → ∀ x, small f (33 :: txt c 3 ++ x) = some (.neg c, x) := fun hf x => by
      obtain ⟨g, rfl⟩ : ∃ g, f = g + 1 := ⟨f - 1, by omega⟩
      show small (g + 1) (33 :: (txt c 3 ++ x)) = _
      unfold small
      have e : leafOf 33 = none := by decide
      rw [e]
      dsimp only
      rw [if_pos rfl, ((ih hk g).1 (by omega)).1 x]
    rw [hl]
    exact ⟨fun hf => ⟨hS (by omega), fun y => mid_of (hS (by omega) y)⟩, fun hf y hy => whole_of ((mid_of (hS (by omega) y)).trans (many_none _ hy))⟩
  | two s l h ihl ihh =>
    intro hk f
    obtain ⟨k1, k2, k3⟩ := hk
    have hl : (Cond.two s l h).steps.length = l.steps.length + h.steps.length + 1 := by simp [Cond.steps]; omega
    have hl1 := steps_ne l
    have hh1 := steps_ne h
    rw [hl]
    have hB : ∀ body, (2 * (l.steps.length + h.steps.length + 1) ≤ f) → (∀ g x, f = g + 1 → whole g (body ++ 41 :: x) = some (Cond.two s l h, 41 :: x)) → ∀ x, small f (40 :: (body ++ [41]) ++ x) = some (.two s l h, x) := fun body hf hw x => by
      obtain ⟨g, rfl⟩ : ∃ g, f = g + 1 := ⟨f - 1, by omega⟩
      have e1 : 40 :: (body ++ [41]) ++ x = 40 :: (body ++ 41 :: x) := by simp
      rw [e1]
      unfold small
      have e : leafOf 40 = none := by decide
      rw [e]
      dsimp only
      rw [if_neg (by decide), if_pos rfl]
      have := hw g x rfl
      unfold whole at this
      rw [this]; rfl
    rcases k1 with rfl | rfl
    · -- DoAnd
      have e2 : txt (.two 8 l h) 2 = txt l 2 ++ 38 :: txt h 3 := by rw [txt]; simp
      have e1 : txt (.two 8 l h) 1 = txt l 2 ++ 38 :: txt h 3 := by rw [txt]; simp
      have e3 : txt (.two 8 l h) 3 = 40 :: ((txt l 2 ++ 38 :: txt h 3) ++ [41]) := by rw [txt]; simp
      have hM : ∀ g, 2 * l.steps.length ≤ g → 2 * h.steps.length ≤ g → ∀ y, mid g ((txt l 2 ++ 38 :: txt h 3) ++ y) = moreM g (.two 8 l h) y := fun g hg1 hg2 y => by
        rw [List.append_assoc, ((ihl k2 g).1 hg1).2 _]
        refine (many_step (t := l) _ (((ihh k3 g).1 hg2).1 y)).trans ?_
        exact many_fuel (small_good g) 38 8 _ _ _ _ (by simp; omega) (by simp)
      have hW : ∀ g, 2 * l.steps.length ≤ g → 2 * h.steps.length ≤ g → ∀ y, y.head? ≠ some 38 → whole g ((txt l 2 ++ 38 :: txt h 3) ++ y) = moreW g (.two 8 l h) y := fun g hg1 hg2 y hy => whole_of ((hM g hg1 hg2 y).trans (many_none _ hy))
      refine ⟨fun hf => ⟨?_, ?_⟩, fun hf y hy => ?_⟩
      · rw [e3]
        exact hB _ hf (fun g x hg => (hW g (by omega) (by omega) _ (by simp)).trans (many_none _ (by simp)))
      · rw [e2]; exact hM f (by omega) (by omega)
      · rw [e1]; exact hW f (by omega) (by omega) y hy
    · -- DoOr
      have e1 : txt (.two 9 l h) 1 = txt l 1 ++ 124 :: txt h 2 := by rw [txt]; simp
      have e2 : txt (.two 9 l h) 2 = 40 :: ((txt l 1 ++ 124 :: txt h 2) ++ [41]) := by rw [txt]; simp
      have e3 : txt (.two 9 l h) 3 = 40 :: ((txt l 1 ++ 124 :: txt h 2) ++ [41]) := by rw [txt]; simp
      have hW : ∀ g, 2 * l.steps.length ≤ g + 1 → 2 * h.steps.length ≤ g → ∀ y, y.head? ≠ some 38 → whole g ((txt l 1 ++ 124 :: txt h 2) ++ y) = moreW g (.two 9 l h) y := fun g hg1 hg2 y hy => by
        rw [List.append_assoc, (ihl k2 g).2 hg1 _ (by simp)]
        refine (many_step (t := l) _ ((((ihh k3 g).1 hg2).2 y).trans (many_none _ hy))).trans ?_
        exact many_fuel (mid_good g) 124 9 _ _ _ _ (by simp; omega) (by simp)
      have hS : 2 * (l.steps.length + h.steps.length + 1) ≤ f → ∀ x, small f (40 :: ((txt l 1 ++ 124 :: txt h 2) ++ [41]) ++ x) = some (.two 9 l h, x) := fun hf => hB _ hf (fun g x hg => (hW g (by omega) (by omega) _ (by simp)).trans (many_none _ (by simp)))
      refine ⟨fun hf => ⟨?_, ?_⟩, fun hf y hy => ?_⟩
      · rw [e3]; exact hS hf
      · rw [e2]; exact fun y => mid_of (hS hf y)
      · rw [e1]; exact hW f (by omega) (by omega) y hy

theorem txt_len3 : ∀ (c : Cond) (k : Nat), (txt c k).length ≤ 3 * c.steps.length
  | .one s, k => by simp [txt, Cond.steps]
  | .neg c, k => by
    have := txt_len3 c 3
    simp [txt, Cond.steps]; omega
  | .two s l h, k => by
    have h1 := txt_len3 l (if s = 8 then 2 else 1)
    have h2 := txt_len3 h ((if s = 8 then 2 else 1) + 1)
    rw [txt]
    generalize (if s = 8 then 2 else 1) = m at *
    generalize (if s = 8 then 38 else 124) = q
    by_cases c : m < k
    · rw [if_pos c]; simp [Cond.steps]; omega
    · rw [if_neg c]; simp [Cond.steps]; omega

theorem read_written (t : Cond) (h : t.Ok) (hl : t.steps.length ≤ 40) : readCode (txt t 0) = some t.steps := by
  have e : txt t 0 = txt t 1 := by
    rw [txt_parL t 1 (by omega)]
    rw [decide_eq_false (bind_pos t)]; rfl
  have h3 := txt_len3 t 0
  refine read_big 200 (by omega) ?_ hl
  have h2 := (written t h 200).2 (by omega) [] (by simp)
  rw [List.append_nil, ← e] at h2
  rw [h2]; rfl
end Go.Proofs.Ytndbfdgflflfpaa
