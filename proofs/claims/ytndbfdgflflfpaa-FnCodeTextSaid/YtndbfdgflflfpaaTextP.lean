/- Codes as texts: what is written, what is read; plain laws. -/
import Derived.Test.YtndbfdgflflfpaaTreeP
namespace Go.Proofs.Ytndbfdgflflfpaa

def chr (s : Int) : Nat := if s = 5 then 49 else if s = 6 then 48 else 97 + s.toNat

/-- How much a condition binds. -/
def bind' : Cond → Nat
  | .two s _ _ => if s = 8 then 2 else 1
  | _ => 3

/-- The text of a condition where a strength is wanted. -/
def txt : Cond → Nat → List Nat
  | .one s, _ => [chr s]
  | .neg c, _ => 33 :: txt c 3
  | .two s l h, k =>
    if (if s = 8 then 2 else 1) < k then 40 :: ((txt l (if s = 8 then 2 else 1) ++ (if s = 8 then 38 else 124) :: txt h ((if s = 8 then 2 else 1) + 1)) ++ [41])
    else txt l (if s = 8 then 2 else 1) ++ (if s = 8 then 38 else 124) :: txt h ((if s = 8 then 2 else 1) + 1)

abbrev Rd := List Nat → Option (Cond × List Nat)

/-- More parts behind one, with a sign between them. -/
def many (p : Rd) (sign : Nat) (st : Int) : Nat → Cond → Rd
  | 0, _, _ => none
  | _ + 1, t, [] => some (t, [])
  | n + 1, t, c :: r => if c = sign then (match p r with | some (h, r') => many p sign st n (.two st t h) r' | none => none) else some (t, c :: r)

/-- Parts with signs between them. -/
def great (p : Rd) (sign : Nat) (st : Int) : Rd := fun s => match p s with
  | some (t, r) => many p sign st (r.length + 1) t r
  | none => none

def leafOf (c : Nat) : Option Int :=
  if 97 ≤ c ∧ c < 102 then some (c - 97 : Int) else if c = 49 then some 5 else if c = 48 then some 6 else none

/-- What binds most. -/
def small : Nat → Rd
  | 0, _ => none
  | _ + 1, [] => none
  | f + 1, c :: r =>
    match leafOf c with
    | some s => some (.one s, r)
    | none =>
      if c = 33 then (match small f r with | some (t, r') => some (.neg t, r') | none => none)
      else if c = 40 then (match great (great (small f) 38 8) 124 9 r with
        | some (t, 41 :: r') => some (t, r')
        | _ => none)
      else none

abbrev mid (f : Nat) : Rd := great (small f) 38 8
abbrev whole (f : Nat) : Rd := great (great (small f) 38 8) 124 9

theorem two_Ok {s : Int} {a b : Cond} (hs : s = 8 ∨ s = 9) (ha : a.Ok) (hb : b.Ok) : (Cond.two s a b).Ok := ⟨hs, ha, hb⟩

/-- A reader that gives only what is shorter and right. -/
def Good (p : Rd) : Prop := ∀ s t r, p s = some (t, r) → r.length < s.length ∧ t.Ok ∧ t.steps.length + r.length ≤ s.length

theorem many_good {p : Rd} (hp : Good p) {sign : Nat} {st : Int} (hst : st = 8 ∨ st = 9) : ∀ (n : Nat) (t : Cond) (s : List Nat) (u : Cond) (r : List Nat), t.Ok → many p sign st n t s = some (u, r) → r.length ≤ s.length ∧ u.Ok ∧ u.steps.length + r.length ≤ t.steps.length + s.length
  | 0, _, _, _, _, _, h => by cases h
  | n + 1, t, [], u, r, ht, h => by
    injection h with h; injection h with h1 h2; subst h1; subst h2
    exact ⟨Nat.le_refl _, ht, Nat.le_refl _⟩
  | n + 1, t, c :: s, u, r, ht, h => by
    unfold many at h
    by_cases hc : c = sign
    · rw [if_pos hc] at h
      cases e : p s with
      | none => rw [e] at h; cases h
      | some x =>
        obtain ⟨v, r'⟩ := x
        rw [e] at h
        obtain ⟨h1, h2, h4⟩ := hp s v r' e
        obtain ⟨h5, h6, h7⟩ := many_good hp hst n _ _ _ _ (two_Ok hst ht h2) h
        refine ⟨by simp; omega, h6, ?_⟩
        simp only [Cond.steps, List.length_append, List.length_cons, List.length_nil] at h7 ⊢
        omega
    · rw [if_neg hc] at h
      injection h with h; injection h with h1 h2; subst h1; subst h2
      exact ⟨Nat.le_refl _, ht, Nat.le_refl _⟩

theorem great_good {p : Rd} (hp : Good p) {sign : Nat} {st : Int} (hst : st = 8 ∨ st = 9) : Good (great p sign st) := by
  intro s t r h
  unfold great at h
  cases e : p s with
  | none => rw [e] at h; cases h
  | some x =>
    obtain ⟨v, r'⟩ := x
    rw [e] at h
    obtain ⟨h1, h2, h4⟩ := hp s v r' e
    obtain ⟨h5, h6, h7⟩ := many_good hp hst _ _ _ _ _ h2 h
    exact ⟨by omega, h6, by omega⟩

theorem leaf_range {c : Nat} {s : Int} (h : leafOf c = some s) : 0 ≤ s ∧ s ≤ 6 := by
  unfold leafOf at h
  split at h
  · injection h with h; omega
  · split at h
    · injection h with h; omega
    · split at h
      · injection h with h; omega
      · cases h

theorem small_good : ∀ (f : Nat), Good (small f)
  | 0 => by intro s t r h; cases h
  | f + 1 => by
    intro s t r h
    match s, h with
    | [], h => cases h
    | c :: s, h =>
      unfold small at h
      cases e : leafOf c with
      | some z =>
        rw [e] at h
        injection h with h; injection h with h1 h2; subst h1; subst h2
        exact ⟨by simp, leaf_range e, by simp [Cond.steps]; omega⟩
      | none =>
        rw [e] at h
        dsimp only at h
        by_cases h33 : c = 33
        · rw [if_pos h33] at h
          cases e2 : small f s with
          | none => rw [e2] at h; cases h
          | some x =>
            obtain ⟨v, r'⟩ := x
            rw [e2] at h
            injection h with h; injection h with h1 h2; subst h1; subst h2
            obtain ⟨h1, h2, h4⟩ := small_good f s v r' e2
            exact ⟨by simp; omega, h2, by simp [Cond.steps]; omega⟩
        · rw [if_neg h33] at h
          by_cases h40 : c = 40
          · rw [if_pos h40] at h
            split at h
            · rename_i t' r' e2
              injection h with h; injection h with h1 h2; subst h1; subst h2
              obtain ⟨h1, h2, h4⟩ := great_good (great_good (small_good f) (.inl rfl)) (.inr rfl) _ _ _ e2
              simp only [List.length_cons] at h1 h4 ⊢
              exact ⟨by omega, h2, by omega⟩
            · cases h
          · rw [if_neg h40] at h; cases h

theorem mid_good (f : Nat) : Good (mid f) := great_good (small_good f) (.inl rfl)
theorem whole_good (f : Nat) : Good (whole f) := great_good (mid_good f) (.inr rfl)

theorem many_none {p : Rd} {sign : Nat} {st : Int} {t : Cond} {y : List Nat} (n : Nat) (h : y.head? ≠ some sign) : many p sign st (n + 1) t y = some (t, y) := by
  match y, h with
  | [], _ => rfl
  | c :: y, h =>
    unfold many
    rw [if_neg (fun e => h (by simp [e]))]

theorem many_step {p : Rd} {sign : Nat} {st : Int} {t v : Cond} {r r' : List Nat} (n : Nat) (e : p r = some (v, r')) : many p sign st (n + 1) t (sign :: r) = many p sign st n (.two st t v) r' := by
  rw [many, if_pos rfl, e]

/-! Fuel. -/

theorem many_fuel {p : Rd} (hp : Good p) (sign : Nat) (st : Int) : ∀ (n m : Nat) (t : Cond) (s : List Nat), s.length < n → s.length < m → many p sign st n t s = many p sign st m t s
  | 0, _, _, _, h, _ => by omega
  | _ + 1, 0, _, _, _, h => by omega
  | n + 1, m + 1, t, [], _, _ => rfl
  | n + 1, m + 1, t, c :: s, h1, h2 => by
    unfold many
    by_cases hc : c = sign
    · rw [if_pos hc, if_pos hc]
      cases e : p s with
      | none => rfl
      | some x =>
        obtain ⟨v, r'⟩ := x
        have := (hp s v r' e).1
        simp only [List.length_cons] at h1 h2
        exact many_fuel hp sign st n m _ _ (by omega) (by omega)
    · rw [if_neg hc, if_neg hc]

/-- One reader gives what the other gives, wherever a part passes a test. -/
theorem many_up {p q : Rd} (sign : Nat) (st : Int) (Q : Cond → List Nat → List Nat → Prop) (hpq : ∀ s t r, p s = some (t, r) → Q t s r → q s = some (t, r)) :
    ∀ (n : Nat) (t : Cond) (s : List Nat) (u : Cond) (r : List Nat), many p sign st n t s = some (u, r) → (∀ s' h r', p s' = some (h, r') → s'.length ≤ s.length → r.length ≤ r'.length → h.steps.length ≤ u.steps.length → Q h s' r') → Good p → (st = 8 ∨ st = 9) → t.Ok → many q sign st n t s = some (u, r)
  | 0, _, _, _, _, h, _, _, _, _ => by cases h
  | n + 1, t, [], u, r, h, _, _, _, _ => h
  | n + 1, t, c :: s, u, r, h, hQ, hp, hst, ht => by
    unfold many at h ⊢
    by_cases hc : c = sign
    · rw [if_pos hc] at h ⊢
      cases e : p s with
      | none => rw [e] at h; cases h
      | some x =>
        obtain ⟨v, r'⟩ := x
        rw [e] at h
        obtain ⟨g1, g2, g3⟩ := hp s v r' e
        dsimp only at h
        obtain ⟨k1, k2, k3⟩ := many_good hp hst n _ _ _ _ (two_Ok hst ht g2) h
        have hle := many_steps hp hst n _ _ _ _ h
        rw [hpq s v r' e (hQ s v r' e (by simp) k1 (by simp only [Cond.steps, List.length_append] at hle; omega))]
        exact many_up sign st Q hpq n _ _ _ _ h (fun s' h' r'' e' l1 l2 l3 => hQ s' h' r'' e' (by simp; omega) l2 l3) hp hst (two_Ok hst ht g2)
    · rw [if_neg hc] at h ⊢
      exact h
where
  many_steps {p : Rd} (hp : Good p) {sign : Nat} {st : Int} (hst : st = 8 ∨ st = 9) : ∀ (n : Nat) (t : Cond) (s : List Nat) (u : Cond) (r : List Nat), many p sign st n t s = some (u, r) → t.steps.length ≤ u.steps.length
    | 0, _, _, _, _, h => by cases h
    | n + 1, t, [], u, r, h => by
      injection h with h; injection h with h1 h2; subst h1; exact Nat.le_refl _
    | n + 1, t, c :: s, u, r, h => by
      unfold many at h
      by_cases hc : c = sign
      · rw [if_pos hc] at h
        cases e : p s with
        | none => rw [e] at h; cases h
        | some x =>
          obtain ⟨v, r'⟩ := x
          rw [e] at h
          have := many_steps hp hst n _ _ _ _ h
          simp only [Cond.steps, List.length_append] at this
          omega
      · rw [if_neg hc] at h
        injection h with h; injection h with h1 h2; subst h1; exact Nat.le_refl _

theorem great_up {p q : Rd} (sign : Nat) {st : Int} (hst : st = 8 ∨ st = 9) (Q : Cond → List Nat → List Nat → Prop) (hpq : ∀ s t r, p s = some (t, r) → Q t s r → q s = some (t, r)) (hp : Good p)
    (s : List Nat) (u : Cond) (r : List Nat) (h : great p sign st s = some (u, r)) (hQ : ∀ s' h r', p s' = some (h, r') → s'.length ≤ s.length → r.length ≤ r'.length → h.steps.length ≤ u.steps.length → Q h s' r') :
    great q sign st s = some (u, r) := by
  unfold great at h ⊢
  cases e : p s with
  | none => rw [e] at h; cases h
  | some x =>
    obtain ⟨v, r'⟩ := x
    rw [e] at h
    dsimp only at h
    obtain ⟨g1, g2, g3⟩ := hp s v r' e
    obtain ⟨k1, k2, k3⟩ := many_good hp hst _ _ _ _ _ g2 h
    have hle := many_up.many_steps hp hst _ _ _ _ _ h
    rw [hpq s v r' e (hQ s v r' e (Nat.le_refl _) k1 hle)]
    exact many_up sign st Q hpq _ _ _ _ _ h (fun s' h' r'' e' l1 l2 l3 => hQ s' h' r'' e' (by omega) l2 l3) hp hst g2

/-- A bound on steps and on what was read: where it holds, little fuel is enough. -/
theorem small_less : ∀ (F f : Nat) (s : List Nat) (t : Cond) (r : List Nat), small F s = some (t, r) → 2 * t.steps.length + (s.length - r.length) ≤ 2 * f + 1 → small f s = some (t, r)
  | 0, _, _, _, _, h, _ => by cases h
  | F + 1, 0, s, t, r, h, hb => by
    have h1 := small_good _ _ _ _ h
    have := steps_ne t
    omega
  | F + 1, f + 1, [], t, r, h, hb => by cases h
  | F + 1, f + 1, c :: s, t, r, h, hb => by
    unfold small at h ⊢
    cases e : leafOf c with
    | some z => rw [e] at h; exact h
    | none =>
      rw [e] at h
      dsimp only at h ⊢
      by_cases h33 : c = 33
      · rw [if_pos h33] at h ⊢
        cases e2 : small F s with
        | none => rw [e2] at h; cases h
        | some x =>
          obtain ⟨v, r'⟩ := x
          rw [e2] at h
          injection h with h; injection h with h1 h2; subst h1; subst h2
          have hg := (small_good _ _ _ _ e2).1
          rw [small_less F f s v r' e2 (by simp [Cond.steps] at hb; omega)]
      · rw [if_neg h33] at h ⊢
        by_cases h40 : c = 40
        · rw [if_pos h40] at h ⊢
          split at h
          · rename_i t' r' e2
            injection h with h; injection h with h1 h2; subst h1; subst h2
            have hg := whole_good F _ _ _ e2
            have hu : whole f s = some (t', 41 :: r') := by
              refine great_up 124 (.inr rfl) (fun u a b => 2 * u.steps.length + (a.length - b.length) ≤ 2 * f + 1) ?_ (mid_good F) s t' _ e2 ?_
              · intro a u b ha hq
                refine great_up 38 (.inl rfl) (fun u a b => 2 * u.steps.length + (a.length - b.length) ≤ 2 * f + 1) (fun a u b ha hq => small_less F f a u b ha hq) (small_good F) a u b ha ?_
                intro a' u' b' e' l1 l2 l3
                show 2 * u'.steps.length + (a'.length - b'.length) ≤ 2 * f + 1
                omega
              · intro a' u' b' e' l1 l2 l3
                show 2 * u'.steps.length + (a'.length - b'.length) ≤ 2 * f + 1
                simp only [List.length_cons] at l2 hb hg
                omega
            unfold whole at hu
            rw [hu]; rfl
          · cases h
        · rw [if_neg h40] at h; cases h

theorem whole_less {F f : Nat} {s : List Nat} {t : Cond} {r : List Nat} (h : whole F s = some (t, r)) (hb : 2 * t.steps.length + (s.length - r.length) ≤ 2 * f + 1) : whole f s = some (t, r) := by
  refine great_up 124 (.inr rfl) (fun u a b => 2 * u.steps.length + (a.length - b.length) ≤ 2 * f + 1) ?_ (mid_good F) s t _ h ?_
  · intro a u b ha hq
    refine great_up 38 (.inl rfl) (fun u a b => 2 * u.steps.length + (a.length - b.length) ≤ 2 * f + 1) (fun a u b ha hq => small_less F f a u b ha hq) (small_good F) a u b ha ?_
    intro a' u' b' e' l1 l2 l3
    show 2 * u'.steps.length + (a'.length - b'.length) ≤ 2 * f + 1
    omega
  · intro a' u' b' e' l1 l2 l3
    show 2 * u'.steps.length + (a'.length - b'.length) ≤ 2 * f + 1
    omega

/-- More fuel does not harm. -/
theorem small_more : ∀ (f F : Nat) (s : List Nat) (t : Cond) (r : List Nat), f ≤ F → small f s = some (t, r) → small F s = some (t, r)
  | 0, _, _, _, _, _, h => by cases h
  | f + 1, 0, _, _, _, h, _ => by omega
  | f + 1, F + 1, [], t, r, _, h => by cases h
  | f + 1, F + 1, c :: s, t, r, hf, h => by
    unfold small at h ⊢
    cases e : leafOf c with
    | some z => rw [e] at h; exact h
    | none =>
      rw [e] at h
      dsimp only at h ⊢
      by_cases h33 : c = 33
      · rw [if_pos h33] at h ⊢
        cases e2 : small f s with
        | none => rw [e2] at h; cases h
        | some x =>
          obtain ⟨v, r'⟩ := x
          rw [e2] at h
          rw [small_more f F s v r' (by omega) e2]; exact h
      · rw [if_neg h33] at h ⊢
        by_cases h40 : c = 40
        · rw [if_pos h40] at h ⊢
          split at h
          · rename_i t' r' e2
            have hu : whole F s = some (t', 41 :: r') := by
              refine great_up 124 (.inr rfl) (fun _ _ _ => True) ?_ (mid_good f) s t' _ e2 (fun _ _ _ _ _ _ _ => trivial)
              intro a u b ha _
              exact great_up 38 (.inl rfl) (fun _ _ _ => True) (fun a u b ha _ => small_more f F a u b (by omega) ha) (small_good f) a u b ha (fun _ _ _ _ _ _ _ => trivial)
            unfold whole at hu
            rw [hu]; exact h
          · cases h
        · rw [if_neg h40] at h; cases h

theorem whole_more {f F : Nat} {s : List Nat} {t : Cond} {r : List Nat} (hf : f ≤ F) (h : whole f s = some (t, r)) : whole F s = some (t, r) := by
  refine great_up 124 (.inr rfl) (fun _ _ _ => True) ?_ (mid_good f) s t _ h (fun _ _ _ _ _ _ _ => trivial)
  intro a u b ha _
  exact great_up 38 (.inl rfl) (fun _ _ _ => True) (fun a u b ha _ => small_more f F a u b hf ha) (small_good f) a u b ha (fun _ _ _ _ _ _ _ => trivial)

/-- The code that a text tells. -/
def readCode (s : List Nat) : Option (List Int) :=
  if s.length ≤ 199 then (match whole 200 s with
    | some (t, []) => if t.steps.length ≤ 40 then some t.steps else none
    | _ => none) else none

theorem read_big {s : List Nat} {t : Cond} (F : Nat) (hs : s.length ≤ 199) (h : whole F s = some (t, [])) (hl : t.steps.length ≤ 40) : readCode s = some t.steps := by
  have h2 : whole 200 s = some (t, []) := whole_less h (by simp; omega)
  unfold readCode
  rw [if_pos hs, h2]
  simp [hl]

/-- Two hundred, or one less than that by far, is fuel enough for what is right. -/
theorem read_iff {s : List Nat} (F : Nat) (hF : 191 ≤ F) (hs : s.length ≤ 199) (zs : List Int) : readCode s = some zs ↔ ∃ t, whole F s = some (t, []) ∧ t.steps.length ≤ 40 ∧ t.steps = zs := by
  constructor
  · intro h
    unfold readCode at h
    rw [if_pos hs] at h
    split at h
    · rename_i t e
      split at h
      · rename_i hl
        injection h with h
        refine ⟨t, ?_, hl, h⟩
        refine whole_less e ?_
        simp; omega
      · cases h
    · cases h
  · rintro ⟨t, h1, h2, rfl⟩
    exact read_big F hs h1 h2
end Go.Proofs.Ytndbfdgflflfpaa
