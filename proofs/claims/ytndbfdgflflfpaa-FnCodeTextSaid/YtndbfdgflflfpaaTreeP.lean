/- Codes as trees: plain laws. -/
import Derived.Test.YtndbfdgflflfpaaRunP
namespace Go.Proofs.Ytndbfdgflflfpaa

/-- A condition: a step, DoNot behind a part, two parts and a step behind both. -/
inductive Cond where
  | one (s : Int)
  | neg (c : Cond)
  | two (s : Int) (l h : Cond)

def Cond.steps : Cond → List Int
  | .one s => [s]
  | .neg c => c.steps ++ [7]
  | .two s l h => l.steps ++ h.steps ++ [s]

def Cond.Ok : Cond → Prop
  | .one s => 0 ≤ s ∧ s ≤ 6
  | .neg c => c.Ok
  | .two s l h => (s = 8 ∨ s = 9) ∧ l.Ok ∧ h.Ok

def Cond.last : Cond → Int
  | .one s => s
  | .neg _ => 7
  | .two s _ _ => s

def push (s : Int) (st : List Cond) : List Cond :=
  if s = 7 then (match st with | c :: r => .neg c :: r | [] => [])
  else if s = 8 ∨ s = 9 then (match st with | h :: l :: r => .two s l h :: r | r => r)
  else .one s :: st

def build : List Int → List Cond → List Cond
  | [], st => st
  | s :: l, st => build l (push s st)

def flat (st : List Cond) : List Int := (st.reverse.map Cond.steps).flatten

theorem flat_cons (c : Cond) (st : List Cond) : flat (c :: st) = flat st ++ c.steps := by simp [flat]

theorem build_fits : ∀ (l : List Int) (st : List Cond), fits l st.length → (∀ c ∈ st, c.Ok) → ∃ t, build l st = [t] ∧ t.Ok ∧ t.steps = flat st ++ l
  | [], st, h, hk => by
    match st, h with
    | [c], _ => exact ⟨c, rfl, hk c (by simp), by simp [flat]⟩
  | s :: l, st, h, hk => by
    unfold fits at h
    obtain ⟨h0, h9, h1, h2, h3⟩ := h
    by_cases c6 : s ≤ 6
    · have hf := h1 c6
      have e : push s st = .one s :: st := by unfold push; rw [if_neg (by omega), if_neg (by omega)]
      obtain ⟨t, t1, t2, t3⟩ := build_fits l (.one s :: st) (by simpa using hf) (by
        intro c hc
        simp only [List.mem_cons] at hc
        rcases hc with rfl | hc
        · exact ⟨h0, c6⟩
        · exact hk c hc)
      refine ⟨t, by rw [build, e]; exact t1, t2, ?_⟩
      rw [t3, flat_cons]; simp [Cond.steps]
    · by_cases c7 : s = 7
      · subst c7
        obtain ⟨hl, hf⟩ := h2 rfl
        match st, hl with
        | c :: r, _ =>
          have e : push 7 (c :: r) = .neg c :: r := by simp [push]
          obtain ⟨t, t1, t2, t3⟩ := build_fits l (.neg c :: r) (by simpa using hf) (by
            intro d hd
            simp only [List.mem_cons] at hd
            rcases hd with rfl | hd
            · exact hk c (by simp)
            · exact hk d (by simp [hd]))
          refine ⟨t, by rw [build, e]; exact t1, t2, ?_⟩
          rw [t3, flat_cons, flat_cons]; simp [Cond.steps]
      · obtain ⟨hl, hf⟩ := h3 (by omega)
        have hs : s = 8 ∨ s = 9 := by omega
        match st, hl with
        | b :: a :: r, _ =>
          have e : push s (b :: a :: r) = .two s a b :: r := by unfold push; rw [if_neg c7, if_pos hs]
          obtain ⟨t, t1, t2, t3⟩ := build_fits l (.two s a b :: r) (by simpa using hf) (by
            intro d hd
            simp only [List.mem_cons] at hd
            rcases hd with rfl | hd
            · exact ⟨hs, hk a (by simp), hk b (by simp)⟩
            · exact hk d (by simp [hd]))
          refine ⟨t, by rw [build, e]; exact t1, t2, ?_⟩
          rw [t3, flat_cons, flat_cons, flat_cons]; simp [Cond.steps]

/-- The tree of a code. -/
def condOf (zs : List Int) : Cond := (build zs []).headD (.one 0)

theorem condOf_is {zs : List Int} (h : fits zs 0) : (condOf zs).steps = zs ∧ (condOf zs).Ok ∧ build zs [] = [condOf zs] := by
  obtain ⟨t, h1, h2, h3⟩ := build_fits zs [] h (by simp)
  have e : condOf zs = t := by unfold condOf; rw [h1]; rfl
  rw [e]
  exact ⟨by rw [h3]; simp [flat], h2, h1⟩

theorem build_steps : ∀ (t : Cond) (l : List Int) (st : List Cond), t.Ok → build (t.steps ++ l) st = build l (t :: st)
  | .one s, l, st, h => by
    show build l (push s st) = _
    have h1 : 0 ≤ s ∧ s ≤ 6 := h
    unfold push; rw [if_neg (by omega), if_neg (by omega)]
  | .neg c, l, st, h => by
    show build (c.steps ++ [7] ++ l) st = _
    rw [List.append_assoc, build_steps c _ _ h]; rfl
  | .two s a b, l, st, h => by
    obtain ⟨h1, h2, h3⟩ := h
    show build (a.steps ++ b.steps ++ [s] ++ l) st = _
    rw [List.append_assoc, List.append_assoc, build_steps a _ _ h2, build_steps b _ _ h3]
    show build l (push s (b :: a :: st)) = _
    unfold push; rw [if_neg (by omega), if_pos h1]

theorem condOf_steps (t : Cond) (h : t.Ok) : condOf t.steps = t := by
  have := build_steps t [] [] h
  rw [List.append_nil] at this
  unfold condOf; rw [this]; rfl

theorem steps_inj {a b : Cond} (ha : a.Ok) (hb : b.Ok) (h : a.steps = b.steps) : a = b := by
  rw [← condOf_steps a ha, h, condOf_steps b hb]

theorem steps_ne : ∀ (t : Cond), 1 ≤ t.steps.length
  | .one s => by simp [Cond.steps]
  | .neg c => by simp [Cond.steps]
  | .two s a b => by simp [Cond.steps]; omega

theorem fits_on : ∀ (t : Cond) (l : List Int) (d : Nat), t.Ok → fits l (d + 1) → fits (t.steps ++ l) d
  | .one s, l, d, h, hf => by
    have h1 : 0 ≤ s ∧ s ≤ 6 := h
    show fits (s :: l) d
    unfold fits
    exact ⟨h1.1, by omega, fun _ => hf, fun _ => by omega, fun _ => by omega⟩
  | .neg c, l, d, h, hf => by
    show fits (c.steps ++ [7] ++ l) d
    rw [List.append_assoc]
    refine fits_on c _ _ h ?_
    show fits (7 :: l) (d + 1)
    unfold fits
    exact ⟨by omega, by omega, fun _ => by omega, fun _ => ⟨by omega, hf⟩, fun _ => by omega⟩
  | .two s a b, l, d, h, hf => by
    obtain ⟨h1, h2, h3⟩ := h
    show fits (a.steps ++ b.steps ++ [s] ++ l) d
    rw [List.append_assoc, List.append_assoc]
    refine fits_on a _ _ h2 (fits_on b _ _ h3 ?_)
    show fits (s :: l) (d + 1 + 1)
    unfold fits
    exact ⟨by omega, by omega, fun _ => by omega, fun _ => by omega, fun _ => ⟨by omega, by simpa using hf⟩⟩

theorem fits_cond (t : Cond) (h : t.Ok) : fits t.steps 0 := by
  have := fits_on t [] 0 h rfl
  rwa [List.append_nil] at this

theorem valid_cond {t : Cond} (h : t.Ok) (hl : t.steps.length ≤ 40) : codeValid t.steps = true := (valid_iff _).2 ⟨fits_cond t h, hl⟩

theorem valid_cond_iff {t : Cond} (h : t.Ok) : codeValid t.steps = decide (t.steps.length ≤ 40) := by
  by_cases hl : t.steps.length ≤ 40
  · rw [valid_cond h hl]; simp [hl]
  · cases e : codeValid t.steps with
    | false => simp [hl]
    | true => exact absurd ((valid_iff _).1 e).2 hl

theorem valid_tree {zs : List Int} (h : codeValid zs = true) : ∃ t : Cond, t.Ok ∧ t.steps = zs ∧ zs.length ≤ 40 ∧ 1 ≤ zs.length ∧ condOf zs = t ∧ build zs [] = [t] := by
  obtain ⟨h1, h2⟩ := (valid_iff _).1 h
  obtain ⟨h3, h4, h5⟩ := condOf_is h1
  exact ⟨condOf zs, h4, h3, h2, by rw [← h3]; exact steps_ne _, rfl, h5⟩

theorem steps_range : ∀ (t : Cond), t.Ok → ∀ z ∈ t.steps, 0 ≤ z ∧ z ≤ 9
  | .one s, h, z, hz => by
    have h1 : 0 ≤ s ∧ s ≤ 6 := h
    simp only [Cond.steps, List.mem_singleton] at hz; subst hz; omega
  | .neg c, h, z, hz => by
    simp only [Cond.steps, List.mem_append, List.mem_singleton] at hz
    rcases hz with hz | rfl
    · exact steps_range c h z hz
    · omega
  | .two s a b, h, z, hz => by
    obtain ⟨h1, h2, h3⟩ := h
    simp only [Cond.steps, List.mem_append, List.mem_singleton] at hz
    rcases hz with (hz | hz) | rfl
    · exact steps_range a h2 z hz
    · exact steps_range b h3 z hz
    · omega

/-! What it tells. -/

def ev (S : Nat) : Cond → Bool
  | .one s => if s = 5 then true else if s = 6 then false else S.testBit s.toNat
  | .neg c => !ev S c
  | .two s l h => if s = 8 then ev S l && ev S h else ev S l || ev S h

theorem runGo_steps (S : Nat) : ∀ (t : Cond) (l : List Int) (st : List Bool), t.Ok → runGo S (t.steps ++ l) st = runGo S l (ev S t :: st)
  | .one s, l, st, h => by
    have h1 : 0 ≤ s ∧ s ≤ 6 := h
    show runGo S l (runStep S s st) = _
    unfold runStep ev
    by_cases c5 : s = 5
    · rw [if_pos c5, if_pos c5]
    · by_cases c6 : s = 6
      · rw [if_neg c5, if_pos c6, if_neg c5, if_pos c6]
      · rw [if_neg c5, if_neg c6, if_neg (by omega), if_neg (by omega), if_neg (by omega), if_neg c5, if_neg c6]
  | .neg c, l, st, h => by
    show runGo S (c.steps ++ [7] ++ l) st = _
    rw [List.append_assoc, runGo_steps S c _ _ h]
    show runGo S l (runStep S 7 (ev S c :: st)) = _
    simp [runStep, ev]
  | .two s a b, l, st, h => by
    obtain ⟨h1, h2, h3⟩ := h
    show runGo S (a.steps ++ b.steps ++ [s] ++ l) st = _
    rw [List.append_assoc, List.append_assoc, runGo_steps S a _ _ h2, runGo_steps S b _ _ h3]
    show runGo S l (runStep S s (ev S b :: ev S a :: st)) = _
    rcases h1 with rfl | rfl
    · simp [runStep, ev]
    · simp [runStep, ev]

theorem runAll_ev (S : Nat) (t : Cond) (h : t.Ok) : runAll t.steps S = ev S t := by
  have := runGo_steps S t [] [] h
  rw [List.append_nil] at this
  unfold runAll; rw [this]; rfl

theorem truthTo_ev {a b : Cond} (ha : a.Ok) (hb : b.Ok) (h : ∀ S, ev S a = ev S b) : ∀ k, truthTo a.steps k = truthTo b.steps k
  | 0 => rfl
  | k + 1 => by rw [truthTo, truthTo, truthTo_ev ha hb h k, runAll_ev k a ha, runAll_ev k b hb, h]

/-! Made simpler. -/

def strongOf (s : Int) : Int := if s = 9 then 5 else 6

def smpNeg : Cond → Cond
  | .neg p => p
  | .one s => if 5 ≤ s then .one (11 - s) else .neg (.one s)
  | .two s l h => .neg (.two s l h)

theorem smpNeg_one (s : Int) : smpNeg (.one s) = if 5 ≤ s then .one (11 - s) else .neg (.one s) := rfl

def smpTwo (s : Int) (a b : Cond) : Cond :=
  if a.last = strongOf s ∨ b.last = strongOf s then .one (strongOf s)
  else if a.last = 11 - strongOf s then b
  else if b.last = 11 - strongOf s then a
  else if a.steps = b.steps then a
  else .two s a b

def smp : Cond → Cond
  | .one s => .one s
  | .neg c => smpNeg (smp c)
  | .two s l h => smpTwo s (smp l) (smp h)

theorem last_const {c : Cond} (h : c.Ok) {k : Int} (hk : k ≤ 6) (e : c.last = k) : c = .one k := by
  match c, h, e with
  | .one s, _, e => simp [Cond.last] at e; rw [e]
  | .neg c, _, e => simp [Cond.last] at e; omega
  | .two s a b, h, e => simp [Cond.last] at e; have := h.1; omega

theorem strong_cases (s : Int) : strongOf s = 5 ∨ strongOf s = 6 := by unfold strongOf; split <;> omega

theorem smpNeg_Ok {c : Cond} (h : c.Ok) : (smpNeg c).Ok := by
  match c, h with
  | .one s, h =>
    have h1 : 0 ≤ s ∧ s ≤ 6 := h
    rw [smpNeg_one]
    by_cases h5 : 5 ≤ s
    · rw [if_pos h5]; exact ⟨by omega, by omega⟩
    · rw [if_neg h5]; exact h
  | .neg c, h => exact h
  | .two s a b, h => exact h

theorem smpTwo_Ok {s : Int} {a b : Cond} (hs : s = 8 ∨ s = 9) (ha : a.Ok) (hb : b.Ok) : (smpTwo s a b).Ok := by
  have h5 := strong_cases s
  unfold smpTwo
  repeat' split
  · exact ⟨by omega, by omega⟩
  · exact hb
  · exact ha
  · exact ha
  · exact ⟨hs, ha, hb⟩

theorem smp_Ok : ∀ (c : Cond), c.Ok → (smp c).Ok
  | .one s, h => h
  | .neg c, h => smpNeg_Ok (smp_Ok c h)
  | .two s a b, h => smpTwo_Ok h.1 (smp_Ok a h.2.1) (smp_Ok b h.2.2)

theorem smpNeg_len (c : Cond) : (smpNeg c).steps.length ≤ c.steps.length + 1 := by
  match c with
  | .one s => rw [smpNeg_one]; split <;> simp [Cond.steps]
  | .neg c => simp [smpNeg, Cond.steps]; omega
  | .two s a b => simp [smpNeg, Cond.steps]; omega

theorem smpTwo_len (s : Int) (a b : Cond) : (smpTwo s a b).steps.length ≤ a.steps.length + b.steps.length + 1 := by
  unfold smpTwo
  repeat' split
  all_goals first | omega | (simp [Cond.steps]; omega) | simp [Cond.steps]

theorem smp_len : ∀ (c : Cond), (smp c).steps.length ≤ c.steps.length
  | .one s => Nat.le_refl _
  | .neg c => by
    have h1 := smp_len c
    have h2 := smpNeg_len (smp c)
    show (smpNeg (smp c)).steps.length ≤ (c.steps ++ [7]).length
    rw [List.length_append]; simp; omega
  | .two s a b => by
    have h1 := smp_len a
    have h2 := smp_len b
    have h3 := smpTwo_len s (smp a) (smp b)
    show (smpTwo s (smp a) (smp b)).steps.length ≤ (a.steps ++ b.steps ++ [s]).length
    simp; omega

theorem smpNeg_ev (S : Nat) {c : Cond} (h : c.Ok) : ev S (smpNeg c) = !ev S c := by
  match c, h with
  | .one s, h =>
    have h1 : 0 ≤ s ∧ s ≤ 6 := h
    rw [smpNeg_one]
    by_cases h5 : 5 ≤ s
    · rw [if_pos h5]
      obtain rfl | rfl : s = 5 ∨ s = 6 := by omega
      · simp [ev]
      · simp [ev]
    · rw [if_neg h5]; rfl
  | .neg c, h => simp [smpNeg, ev]
  | .two s a b, h => rfl

theorem smpTwo_ev (S : Nat) {s : Int} {a b : Cond} (hs : s = 8 ∨ s = 9) (ha : a.Ok) (hb : b.Ok) : ev S (smpTwo s a b) = if s = 8 then ev S a && ev S b else ev S a || ev S b := by
  unfold smpTwo
  split
  · rename_i c
    rcases c with c | c
    · rw [last_const ha (by have := strong_cases s; omega) c]
      rcases hs with rfl | rfl <;> simp [ev, strongOf]
    · rw [last_const hb (by have := strong_cases s; omega) c]
      rcases hs with rfl | rfl <;> simp [ev, strongOf]
  · split
    · rename_i _ c
      rw [last_const ha (by have := strong_cases s; omega) c]
      rcases hs with rfl | rfl <;> simp [ev, strongOf]
    · split
      · rename_i _ _ c
        rw [last_const hb (by have := strong_cases s; omega) c]
        rcases hs with rfl | rfl <;> simp [ev, strongOf]
      · split
        · rename_i _ _ _ c
          rw [← steps_inj ha hb c]
          rcases hs with rfl | rfl <;> simp
        · rfl

theorem smp_ev (S : Nat) : ∀ (c : Cond), c.Ok → ev S (smp c) = ev S c
  | .one s, h => rfl
  | .neg c, h => by
    show ev S (smpNeg (smp c)) = !ev S c
    rw [smpNeg_ev S (smp_Ok c h), smp_ev S c h]
  | .two s a b, h => by
    show ev S (smpTwo s (smp a) (smp b)) = _
    rw [smpTwo_ev S h.1 (smp_Ok a h.2.1) (smp_Ok b h.2.2), smp_ev S a h.2.1, smp_ev S b h.2.2]; rfl

/-- What cannot be made simpler. -/
def Simple : Cond → Prop
  | .one _ => True
  | .neg c => Simple c ∧ smpNeg c = .neg c
  | .two s a b => Simple a ∧ Simple b ∧ smpTwo s a b = .two s a b

theorem simple_fix : ∀ (c : Cond), Simple c → smp c = c
  | .one s, h => rfl
  | .neg c, h => by show smpNeg (smp c) = _; rw [simple_fix c h.1, h.2]
  | .two s a b, h => by show smpTwo s (smp a) (smp b) = _; rw [simple_fix a h.1, simple_fix b h.2.1, h.2.2]

theorem smpNeg_simple {c : Cond} (h : Simple c) : Simple (smpNeg c) := by
  match c, h with
  | .one s, h =>
    rw [smpNeg_one]
    by_cases h5 : 5 ≤ s
    · rw [if_pos h5]; exact trivial
    · rw [if_neg h5]; exact ⟨trivial, by rw [smpNeg_one, if_neg h5]⟩
  | .neg c, h => exact h.1
  | .two s a b, h => exact ⟨h, rfl⟩

theorem smpTwo_simple {s : Int} {a b : Cond} (ha : Simple a) (hb : Simple b) : Simple (smpTwo s a b) := by
  by_cases c1 : a.last = strongOf s ∨ b.last = strongOf s
  · unfold smpTwo; rw [if_pos c1]; exact trivial
  · by_cases c2 : a.last = 11 - strongOf s
    · unfold smpTwo; rw [if_neg c1, if_pos c2]; exact hb
    · by_cases c3 : b.last = 11 - strongOf s
      · unfold smpTwo; rw [if_neg c1, if_neg c2, if_pos c3]; exact ha
      · by_cases c4 : a.steps = b.steps
        · unfold smpTwo; rw [if_neg c1, if_neg c2, if_neg c3, if_pos c4]; exact ha
        · have e : smpTwo s a b = .two s a b := by unfold smpTwo; rw [if_neg c1, if_neg c2, if_neg c3, if_neg c4]
          rw [e]; exact ⟨ha, hb, e⟩

theorem smp_simple : ∀ (c : Cond), Simple (smp c)
  | .one s => trivial
  | .neg c => smpNeg_simple (smp_simple c)
  | .two s a b => smpTwo_simple (smp_simple a) (smp_simple b)

theorem smp_smp (c : Cond) : smp (smp c) = smp c := simple_fix _ (smp_simple c)

/-- It names no other steps than yes and no beside its own. -/
theorem smp_sub : ∀ (c : Cond), c.Ok → ∀ z ∈ (smp c).steps, z < 5 → z ∈ c.steps
  | .one s, _, z, hz, h5 => hz
  | .neg c, hk, z, hz, h5 => by
    have ih := smp_sub c hk
    have hok := smp_Ok c hk
    show z ∈ c.steps ++ [7]
    rw [List.mem_append]
    left
    refine ih z ?_ h5
    change z ∈ (smpNeg (smp c)).steps at hz
    generalize smp c = d at hz hok ih
    match d, hz, hok with
    | .one s, hz, hok =>
      have h1 : 0 ≤ s ∧ s ≤ 6 := hok
      rw [smpNeg_one] at hz
      by_cases h : 5 ≤ s
      · rw [if_pos h] at hz; simp [Cond.steps] at hz; simp [Cond.steps]; omega
      · rw [if_neg h] at hz; simp [Cond.steps] at hz; simp [Cond.steps]; omega
    | .neg p, hz, _ => simp only [smpNeg] at hz; simp [Cond.steps, hz]
    | .two s a b, hz, _ =>
      simp only [smpNeg, Cond.steps, List.mem_append, List.mem_singleton] at hz ⊢
      rcases hz with hz | hz
      · exact hz
      · omega
  | .two s a b, hk, z, hz, h5 => by
    have iha := smp_sub a hk.2.1
    have ihb := smp_sub b hk.2.2
    have hst := strong_cases s
    show z ∈ a.steps ++ b.steps ++ [s]
    change z ∈ (smpTwo s (smp a) (smp b)).steps at hz
    unfold smpTwo at hz
    split at hz
    · simp [Cond.steps] at hz; omega
    · split at hz
      · simp [ihb z hz h5]
      · split at hz
        · simp [iha z hz h5]
        · split at hz
          · simp [iha z hz h5]
          · simp only [Cond.steps, List.mem_append, List.mem_singleton] at hz ⊢
            rcases hz with (hz | hz) | hz
            · exact .inl (.inl (iha z hz h5))
            · exact .inl (.inr (ihb z hz h5))
            · exact .inr hz

/-! Turned round at the facts. -/

def psh : Cond → Bool → Cond
  | .one s, t => if t then (if 5 ≤ s then .one (11 - s) else .neg (.one s)) else .one s
  | .neg c, t => psh c (!t)
  | .two s l h, t => .two (if t then 17 - s else s) (psh l t) (psh h t)

theorem psh_Ok : ∀ (c : Cond) (t : Bool), c.Ok → (psh c t).Ok
  | .one s, t, h => by
    have h1 : 0 ≤ s ∧ s ≤ 6 := h
    unfold psh
    split
    · split
      · exact ⟨by omega, by omega⟩
      · exact h
    · exact h
  | .neg c, t, h => psh_Ok c _ h
  | .two s a b, t, h => ⟨by have := h.1; split <;> omega, psh_Ok a t h.2.1, psh_Ok b t h.2.2⟩

theorem psh_ev (S : Nat) : ∀ (c : Cond) (t : Bool), c.Ok → ev S (psh c t) = (ev S c ^^ t)
  | .one s, t, h => by
    have h1 : 0 ≤ s ∧ s ≤ 6 := h
    unfold psh
    cases t
    · simp
    · by_cases h5 : 5 ≤ s
      · obtain rfl | rfl : s = 5 ∨ s = 6 := by omega
        · simp [ev]
        · simp [ev]
      · simp [h5, ev]
  | .neg c, t, h => by
    show ev S (psh c (!t)) = ((!ev S c) ^^ t)
    rw [psh_ev S c _ h]; cases ev S c <;> cases t <;> rfl
  | .two s a b, t, h => by
    obtain ⟨h1, h2, h3⟩ := h
    show ev S (.two (if t then 17 - s else s) (psh a t) (psh b t)) = _
    unfold ev
    rw [psh_ev S a t h2, psh_ev S b t h3]
    rcases h1 with rfl | rfl
    · cases t <;> cases ev S a <;> cases ev S b <;> simp
    · cases t <;> cases ev S a <;> cases ev S b <;> simp

theorem psh_psh : ∀ (c : Cond) (t : Bool), c.Ok → psh (psh c t) false = psh c t
  | .one s, t, h => by
    cases t
    · simp [psh]
    · by_cases h5 : 5 ≤ s
      · simp [psh, h5]
      · simp [psh, h5]
  | .neg c, t, h => psh_psh c _ h
  | .two s a b, t, h => by
    show Cond.two _ (psh (psh a t) false) (psh (psh b t) false) = _
    rw [psh_psh a t h.2.1, psh_psh b t h.2.2]; rfl

theorem psh_len : ∀ (c : Cond) (t : Bool), (psh c t).steps.length ≤ 2 * c.steps.length
  | .one s, t => by unfold psh; repeat' split <;> simp [Cond.steps]
  | .neg c, t => by
    have := psh_len c (!t)
    show (psh c (!t)).steps.length ≤ 2 * (c.steps ++ [7]).length
    simp; omega
  | .two s a b, t => by
    have h1 := psh_len a t
    have h2 := psh_len b t
    show ((psh a t).steps ++ (psh b t).steps ++ [_]).length ≤ 2 * (a.steps ++ b.steps ++ [s]).length
    simp; omega

/-- DoNot behind facts alone: 'p' the step ahead. -/
def notsAt : Option Int → List Int → Prop
  | _, [] => True
  | p, s :: l => (s = 7 → ∃ q, p = some q ∧ q < 5) ∧ notsAt (some s) l

theorem notsAt_app : ∀ (l r : List Int) (p : Option Int), l ≠ [] → notsAt p l → notsAt l.getLast? r → notsAt p (l ++ r)
  | [s], r, p, _, h, hr => ⟨h.1, by simpa using hr⟩
  | s :: s' :: l, r, p, _, h, hr => ⟨h.1, notsAt_app (s' :: l) r (some s) (by simp) h.2 (by simpa using hr)⟩

theorem steps_last : ∀ (c : Cond), c.steps.getLast? = some c.last
  | .one s => rfl
  | .neg c => by simp [Cond.steps, Cond.last]
  | .two s a b => by simp [Cond.steps, Cond.last]

theorem psh_nots : ∀ (c : Cond) (t : Bool) (p : Option Int), c.Ok → notsAt p (psh c t).steps
  | .one s, t, p, h => by
    have h1 : 0 ≤ s ∧ s ≤ 6 := h
    unfold psh
    split
    · split
      · exact ⟨fun e => by omega, trivial⟩
      · exact ⟨fun e => by omega, fun _ => ⟨s, rfl, by omega⟩, trivial⟩
    · exact ⟨fun e => by omega, trivial⟩
  | .neg c, t, p, h => psh_nots c _ p h
  | .two s a b, t, p, h => by
    obtain ⟨h1, h2, h3⟩ := h
    show notsAt p ((psh a t).steps ++ (psh b t).steps ++ [_])
    have ha := steps_ne (psh a t)
    have hb := steps_ne (psh b t)
    rw [List.append_assoc]
    refine notsAt_app _ _ p (by intro e; rw [e] at ha; simp at ha) (psh_nots a t p h2) ?_
    refine notsAt_app _ _ _ (by intro e; rw [e] at hb; simp at hb) (psh_nots b t _ h3) ?_
    refine ⟨fun e => ?_, trivial⟩
    cases t <;> simp at e <;> omega

theorem notsAt_get : ∀ (l : List Int) (p : Option Int) (k : Nat), notsAt p l → l[k]? = some 7 → (k = 0 → ∃ q, p = some q ∧ q < 5) ∧ (1 ≤ k → ∃ q, l[k - 1]? = some q ∧ q < 5)
  | [], _, _, _, h => by simp at h
  | s :: l, p, 0, hn, h => ⟨fun _ => hn.1 (by simpa using h), fun h => by omega⟩
  | s :: l, p, 1, hn, h => by
    refine ⟨fun h => by omega, fun _ => ?_⟩
    obtain ⟨h1, -⟩ := notsAt_get l (some s) 0 hn.2 (by simpa using h)
    obtain ⟨q, hq, h5⟩ := h1 rfl
    exact ⟨q, by simpa using hq, h5⟩
  | s :: l, p, k + 2, hn, h => by
    refine ⟨fun h => by omega, fun _ => ?_⟩
    obtain ⟨-, h1⟩ := notsAt_get l (some s) (k + 1) hn.2 (by simpa using h)
    obtain ⟨q, hq, h5⟩ := h1 (by omega)
    exact ⟨q, by simpa using hq, h5⟩

/-! Where a part begins. -/

def takes (s : Int) : Int := if s = 7 then 1 else if s = 8 ∨ s = 9 then 2 else 0

def wt : List Int → Int
  | [] => 0
  | s :: l => takes s - 1 + wt l

theorem wt_app : ∀ (a b : List Int), wt (a ++ b) = wt a + wt b
  | [], b => by simp [wt]
  | s :: a, b => by show takes s - 1 + wt (a ++ b) = _; rw [wt_app a b]; simp only [wt]; omega

theorem wt_steps : ∀ (t : Cond), t.Ok → wt t.steps = -1
  | .one s, h => by
    have h1 : 0 ≤ s ∧ s ≤ 6 := h
    simp only [Cond.steps, wt, takes]; rw [if_neg (by omega), if_neg (by omega)]; rfl
  | .neg c, h => by
    show wt (c.steps ++ [7]) = _
    rw [wt_app, wt_steps c h]; rfl
  | .two s a b, h => by
    obtain ⟨h1, h2, h3⟩ := h
    show wt (a.steps ++ b.steps ++ [s]) = _
    rw [wt_app, wt_app, wt_steps a h2, wt_steps b h3]
    rcases h1 with rfl | rfl <;> rfl

theorem wt_drop : ∀ (t : Cond), t.Ok → ∀ i, 0 < i → 0 ≤ wt (t.steps.drop i)
  | .one s, h, i, hi => by
    have e : (Cond.one s).steps.drop i = [] := List.drop_of_length_le (by simp [Cond.steps]; omega)
    rw [e]; exact Int.le_refl _
  | .neg c, h, i, hi => by
    show 0 ≤ wt ((c.steps ++ [7]).drop i)
    by_cases hl : i ≤ c.steps.length
    · rw [List.drop_append_of_le_length hl, wt_app]
      have := wt_drop c h i hi
      have e : wt [7] = 0 := rfl
      omega
    · have e : (c.steps ++ [7]).drop i = [] := List.drop_of_length_le (by simp; omega)
      rw [e]; exact Int.le_refl _
  | .two s a b, h, i, hi => by
    obtain ⟨h1, h2, h3⟩ := h
    have es : wt [s] = 1 := by rcases h1 with rfl | rfl <;> rfl
    show 0 ≤ wt ((a.steps ++ b.steps ++ [s]).drop i)
    by_cases hl : i ≤ (a.steps ++ b.steps).length
    · rw [List.drop_append_of_le_length hl, wt_app, es]
      by_cases ha : i ≤ a.steps.length
      · rw [List.drop_append_of_le_length ha, wt_app, wt_steps b h3]
        have := wt_drop a h2 i hi
        omega
      · have e : (a.steps ++ b.steps).drop i = b.steps.drop (i - a.steps.length) := by
          rw [List.drop_append, List.drop_of_length_le (by omega), List.nil_append]
        rw [e]
        have := wt_drop b h3 (i - a.steps.length) (by omega)
        omega
    · have e : (a.steps ++ b.steps ++ [s]).drop i = [] := List.drop_of_length_le (by simp at hl ⊢; omega)
      rw [e]; exact Int.le_refl _

theorem steps_I64 {t : Cond} (h : t.Ok) : ∀ z ∈ t.steps, I64 z := fun z hz => by have := steps_range t h z hz; unfold I64; omega

theorem smpTwo_cases (s : Int) (a b : Cond) : ((a.last = strongOf s ∨ b.last = strongOf s) → smpTwo s a b = .one (strongOf s)) ∧ (¬ (a.last = strongOf s ∨ b.last = strongOf s) → a.last = 11 - strongOf s → smpTwo s a b = b) ∧
    (¬ (a.last = strongOf s ∨ b.last = strongOf s) → ¬ a.last = 11 - strongOf s → b.last = 11 - strongOf s → smpTwo s a b = a) ∧
    (¬ (a.last = strongOf s ∨ b.last = strongOf s) → ¬ a.last = 11 - strongOf s → ¬ b.last = 11 - strongOf s → a.steps = b.steps → smpTwo s a b = a) ∧
    (¬ (a.last = strongOf s ∨ b.last = strongOf s) → ¬ a.last = 11 - strongOf s → ¬ b.last = 11 - strongOf s → ¬ a.steps = b.steps → smpTwo s a b = .two s a b) := by
  unfold smpTwo
  refine ⟨fun h => by rw [if_pos h], fun h h2 => by rw [if_neg h, if_pos h2], fun h h2 h3 => by rw [if_neg h, if_neg h2, if_pos h3], fun h h2 h3 h4 => by rw [if_neg h, if_neg h2, if_neg h3, if_pos h4], fun h h2 h3 h4 => by rw [if_neg h, if_neg h2, if_neg h3, if_neg h4]⟩

end Go.Proofs.Ytndbfdgflflfpaa
