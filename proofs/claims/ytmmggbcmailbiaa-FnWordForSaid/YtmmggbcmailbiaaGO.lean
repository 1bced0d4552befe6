/- A range over a function whose iterator keeps memory of its own between the rounds: who may turn what; the law of the statement. -/
import Derived.Test.YtmmggbcmailbiaaBase
import Derived.RangeFuncWrites
import Derived.RangeFuncBound
import Derived.RangeFuncLeaves
import Derived.RangeFuncBox
namespace Go.Proofs.Ytmmggbcmailbiaa
open Go.RowKit

/-- Of what lay, nothing has turned but blocks of X. -/
structure Moves (X : Nat → Prop) (w w' : World) : Prop where
  os : w'.os = w.os
  tape : w'.tape = w.tape
  output : w'.output = w.output
  size : w.heap.size ≤ w'.heap.size
  block : ∀ k, k < w.heap.size → ¬ X k → w'.heap[k]? = w.heap[k]?

def more (X : Nat → Prop) (w w' : World) : Nat → Prop := fun k => X k ∨ (w.heap.size ≤ k ∧ k < w'.heap.size)

theorem Moves.refl (X : Nat → Prop) (w : World) : Moves X w w := ⟨rfl, rfl, rfl, Nat.le_refl _, fun _ _ _ => rfl⟩
theorem Moves.wider {X Y : Nat → Prop} {w w' : World} (h : Moves X w w') (hx : ∀ k, X k → Y k) : Moves Y w w' :=
  ⟨h.os, h.tape, h.output, h.size, fun k hk hn => h.block k hk (fun e => hn (hx k e))⟩
theorem Moves.trans {X : Nat → Prop} {a b c : World} (h : Moves X a b) (k : Moves (more X a b) b c) : Moves X a c :=
  ⟨k.os.trans h.os, k.tape.trans h.tape, k.output.trans h.output, Nat.le_trans h.size k.size, fun i hi hn =>
    (k.block i (Nat.lt_of_lt_of_le hi h.size) (fun e => e.elim hn (fun e => absurd e.1 (Nat.not_le.2 hi)))).trans (h.block i hi hn)⟩
theorem Moves.of_below {X : Nat → Prop} {w w' : World} (h : Below w.heap.size w w') : Moves X w w' :=
  ⟨h.os, h.tape, h.output, h.size, fun k hk _ => h.block k hk⟩
theorem Moves.of_grown {X : Nat → Prop} {w w' : World} {r : Option Nat} (h : w.grownBy w' r) (hr : ∀ k, r = some k → X k) : Moves X w w' :=
  ⟨h.os, h.tape, h.output, h.size, fun k hk hn => h.block k hk (fun e => hn (hr k e.symm))⟩
theorem Moves.below {X : Nat → Prop} {B : Nat} {w w' : World} (h : Moves X w w') (hx : ∀ k, X k → B ≤ k) (hB : B ≤ w.heap.size) : Below B w w' :=
  ⟨h.os, h.tape, h.output, h.size, fun k hk => h.block k (Nat.lt_of_lt_of_le hk hB) (fun e => absurd (hx k e) (Nat.not_le.2 hk))⟩
theorem Moves.of_putObj {X : Nat → Prop} (w : World) {l : Nat} (o : Obj) (hl : X l) : Moves X w (w.putObj l o) :=
  ⟨rfl, rfl, rfl, by simp, fun _ _ hn => World.putObj_heap_other (fun e => hn (e ▸ hl))⟩

theorem more_more {X : Nat → Prop} {a b c : World} (h : a.heap.size ≤ b.heap.size) (k : b.heap.size ≤ c.heap.size) : more (more X a b) b c = more X a c := by
  funext i; apply propext; unfold more
  constructor
  · rintro ((h1 | h1) | h1)
    · exact .inl h1
    · exact .inr ⟨h1.1, by omega⟩
    · exact .inr ⟨by omega, h1.2⟩
  · rintro (h1 | h1)
    · exact .inl (.inl h1)
    · by_cases h2 : i < b.heap.size
      · exact .inl (.inr ⟨h1.1, h2⟩)
      · exact .inr ⟨by omega, h1.2⟩
theorem more_same {X : Nat → Prop} {a b : World} (h : b.heap.size = a.heap.size) : more X a b = X := by
  funext i; apply propext; unfold more
  constructor
  · rintro (h1 | h1)
    · exact h1
    · omega
  · exact .inl

/-- The blocks of X lie from B on. -/
def From (B : Nat) (X : Nat → Prop) (w : World) : Prop := ∀ k, X k → B ≤ k ∧ k < w.heap.size
theorem From.more {B : Nat} {X : Nat → Prop} {w w' : World} (h : From B X w) (hB : B ≤ w.heap.size) (hs : w.heap.size ≤ w'.heap.size) : From B (more X w w') w' := by
  rintro k (hk | hk)
  · have := h k hk; omega
  · omega
theorem From.size {B : Nat} {X : Nat → Prop} {w w' : World} (h : From B X w) (hs : w.heap.size ≤ w'.heap.size) : From B X w' := fun k hk => by have := h k hk; omega

/-- What is said abides a step that turns blocks of X alone; what is laid is X's. -/
def AbX {β : Type} (B : Nat) (I : β → (Nat → Prop) → World → Prop) : Prop :=
  ∀ s X W W', From B X W → B ≤ W.heap.size → I s X W → Moves X W W' → I s (more X W W') W'

theorem AbX.and {β : Type} {B : Nat} {I I' : β → (Nat → Prop) → World → Prop} (h : AbX B I) (h' : AbX B I') : AbX B (fun s X W => I s X W ∧ I' s X W) :=
  fun s X W W' hX hB hi hm => ⟨h s X W W' hX hB hi.1 hm, h' s X W W' hX hB hi.2 hm⟩
theorem abx_pure {β : Type} {B : Nat} (P : β → Prop) : AbX B (fun s _ _ => P s) := fun _ _ _ _ _ _ h _ => h
theorem abx_below {β : Type} {B n₀ : Nat} {w₀ : World} (hn : n₀ ≤ w₀.heap.size) (hB : n₀ ≤ B) : AbX B (fun (_ : β) _ W => Below n₀ w₀ W) :=
  fun _ _ _ _ hX hW hi hm => hi.trans (hm.below (fun k hk => Nat.le_trans hB (hX k hk).1) (Nat.le_trans hB hW))
theorem Moves.boxed {X : Nat → Prop} {W W' : World} (h : Moves X W W') {b : Nat} {t : TypeId} {v : Value} (hb : ¬ X b) (hv : Boxed W b t v) : Boxed W' b t v :=
  (h.block b hv.lt hb).trans hv
theorem abx_boxed {β : Type} {B b : Nat} {t : TypeId} (hb : b < B) (P : β → Value → Prop) : AbX B (fun s _ W => ∃ v, Boxed W b t v ∧ P s v) :=
  fun _ _ _ _ hX _ ⟨v, hv, hp⟩ hm => ⟨v, hm.boxed (fun e => by have := (hX b e).1; omega) hv, hp⟩
theorem abx_no {β : Type} {B : Nat} : AbX B (fun (_ : β) _ _ => False) := fun _ _ _ _ _ _ h _ => h

/-- A round keeps what the iterator reads (A) and what it owns (X). -/
structure KeepX (A X : Nat → Prop) (W W' : World) : Prop where
  size : W.heap.size ≤ W'.heap.size
  same : ∀ k, A k ∨ X k → W'.heap[k]? = W.heap[k]?

theorem KeepX.refl (A X : Nat → Prop) (W : World) : KeepX A X W W := ⟨Nat.le_refl _, fun _ _ => rfl⟩
theorem KeepX.trans {A X : Nat → Prop} {a b c : World} (h : KeepX A X a b) (k : KeepX A X b c) : KeepX A X a c :=
  ⟨Nat.le_trans h.size k.size, fun i hi => (k.same i hi).trans (h.same i hi)⟩
theorem KeepX.of_below {A X : Nat → Prop} {W W' : World} (h : Below W.heap.size W W') (hA : ∀ k, A k → k < W.heap.size) (hX : ∀ k, X k → k < W.heap.size) : KeepX A X W W' :=
  ⟨h.size, fun k hk => h.block k (hk.elim (hA k) (hX k))⟩
theorem KeepX.of_grown {A X : Nat → Prop} {W W' : World} {r : Option Nat} (h : W.grownBy W' r) (hA : ∀ k, A k → k < W.heap.size) (hX : ∀ k, X k → k < W.heap.size) (hr : ∀ k, r = some k → ¬ A k ∧ ¬ X k) : KeepX A X W W' :=
  ⟨h.size, fun k hk => h.block k (hk.elim (hA k) (hX k)) (fun e => hk.elim (hr k e.symm).1 (hr k e.symm).2)⟩

theorem KeepX.setCell {A X : Nat → Prop} (W : World) {b i : Nat} (v : Value) (hA : ¬ A b) (hX : ¬ X b) : KeepX A X W (W.setCell ⟨b, i, none⟩ v) :=
  ⟨(KeepsWalks.setCell W _ v).size, fun k hk => Below.heap_setCell W _ v k (fun e => by subst e; exact hk.elim hA hX)⟩
theorem KeepX.drew (A X : Nat → Prop) (W : World) : KeepX A X W W.drew := ⟨Nat.le_refl _, fun _ _ => rfl⟩

/-- How the body of a round may be left. -/
def postX {α : Type} (A : Nat → Prop) (I : List α → (Nat → Prop) → World → Prop) (Ix : Code → List α → (Nat → Prop) → World → Prop) (xs : List α) (X : Nat → Prop) (W : World) : Exit → Act → World → Prop
  | .normal, _, W' => KeepX A X W W' ∧ I xs X W'
  | .ret, _, W' => KeepX (fun _ => False) X W W' ∧ Ix .ret xs X W'
  | .exit id, _, W' => KeepX (fun _ => False) X W W' ∧ Ix (.exit id) xs X W'
  | .goto t, _, W' => KeepX (fun _ => False) X W W' ∧ Ix (.goto t) xs X W'
  | .panic _, _, _ => False
  | .outgrown, _, _ => False

/-- The iterator's contract: it gives the elements of R, one after the other. -/
def SeqX {α : Type} (n : Nat) (P : Program) (gf : Nat) (lb : Array Value) (enc : α → Value → Array Value) (Rd : World → Value → α → Prop) (R : List α) (A : Nat → Prop) (w0 : World) : Prop :=
  ∀ (l : Nat) (J Jx : List α → (Nat → Prop) → World → Prop) (W : World), Below w0.heap.size w0 W → AbX W.heap.size J → AbX W.heap.size Jx →
    (∀ pre x v X W', J pre X W' → pre ++ [x] <+: R → Rd W' v x → (∀ k, v.ownBlock = some k → X k) → From W.heap.size X W' → W.heap.size ≤ W'.heap.size →
      YieldAt Fence.wide (n - 1) P l (enc x v) W' fun e W'' => (e = .returned (.bool true) ∧ J (pre ++ [x]) X W'' ∧ KeepX A X W' W'') ∨ (e = .returned (.bool false) ∧ Jx (pre ++ [x]) X W'' ∧ W'.heap.size ≤ W''.heap.size)) →
    J [] (fun _ => False) W →
    CallsIn Fence.wide n P gf (#[.func (.yield l) #[] #[]] ++ lb) W fun e W' => (∃ v, e = .returned v) ∧ ∃ X, From W.heap.size X W' ∧ W.heap.size ≤ W'.heap.size ∧ (J R X W' ∨ ∃ pre, pre <+: R ∧ Jx pre X W')

def DL (D : Nat) (X : Nat → Prop) : Nat → Prop := fun k => X k ∨ k = D ∨ k = D + 1

theorem more_DL (D : Nat) (X : Nat → Prop) (a b : World) : more (DL D X) a b = DL D (more X a b) := by
  funext i; apply propext; unfold more DL
  constructor
  · rintro ((h | h) | h)
    · exact .inl (.inl h)
    · exact .inr h
    · exact .inl (.inr h)
  · rintro ((h | h) | h)
    · exact .inl (.inl h)
    · exact .inr h
    · exact .inl (.inr h)

variable {n : Nat} {P : Program}

/-- The statement 'for x := range seq { body }'. -/
theorem wpIn_rangeFunc_X {α : Type} {g : Operand} {ps : Array Tmp} {assign body : Code} {Q : Exit → Act → World → Prop} {a : Act} {w : World}
    (h1 : 1 ≤ n) {gf : Nat} {lb : Array Value} (hg : a.eval g = .func (.func gf) #[] lb) (eg : ∀ args w, (callFunc gf args).run P w = .ok (.enter gf args) w)
    {enc : α → Value → Array Value} {Rd : World → Value → α → Prop} {R : List α} {A : Nat → Prop} {w0 : World} (hseq : SeqX (n - 1) P gf lb enc Rd R A w0)
    (hA : ∀ k, A k → k < w.heap.size) (hRd : ∀ W l o o' v x, W.heap[l]? = some o → o.isCells = false → Rd W v x → Rd (W.putObj l o') v x) (hb0 : Below w0.heap.size w0 w) (hps : ∀ x v, (enc x v).size = ps.size)
    (I : List α → (Nat → Prop) → World → Prop) (Ix : Code → List α → (Nat → Prop) → World → Prop) (hI : AbX w.heap.size I) (hIx : ∀ c, AbX w.heap.size (Ix c)) (h0 : I [] (fun _ => False) w)
    (hround : ∀ (l : Nat) (pre : List α) (x : α) (v : Value) (X : Nat → Prop) (W W1 : World), I pre X W → pre ++ [x] <+: R → Rd W v x → (∀ k, v.ownBlock = some k → X k) → From w.heap.size X W → w.heap.size ≤ W.heap.size → ∀ K : Act → World → Prop,
      Hid (∀ a', body.wpIn (Fence.wide.inRound l) (n - 1 - 1) P (postX A I Ix (pre ++ [x]) X W) a' W → K a' W1) →
      assign.wpIn (Fence.wide.inRound l) (n - 1 - 1) P (Exit.then K (fun _ _ _ => False)) { tmps := (ps.zip (enc x v)).foldl (fun t (p, v) => t.setIfInBounds p v) a.tmps, defers := [] } W1)
    (hdone : ∀ (D : Nat) (X : Nat → Prop) (W : World), X D → From w.heap.size X W → w.heap.size ≤ W.heap.size → I R X W → W.heap[D]? = some (.deferred (some [])) → Q .normal { a with defers := { target := .collected D, args := #[] } :: a.defers } W)
    (hstop : ∀ (D : Nat) (X : Nat → Prop) (c : Code) (pre : List α) (W : World), X D → From w.heap.size X W → w.heap.size ≤ W.heap.size → pre <+: R → Ix c pre X W → W.heap[D]? = some (.deferred (some [])) → c.wpIn Fence.wide n P Q { a with defers := { target := .collected D, args := #[] } :: a.defers } W) :
    (Code.rangeFunc g ps assign body).wpIn Fence.wide n P Q a w := by
  refine wpIn_rangeFunc ?_
  intro fn hfn
  obtain ⟨rec, hrec⟩ : ∃ rec : LoopState → Option Code → Loop, rec = fun st pe => { state := st, pending := pe, fn, tmps := a.tmps, params := ps, assign, body, defers := w.heap.size } := ⟨_, rfl⟩
  obtain ⟨W1, hW1⟩ : ∃ W1, (w.alloc (.deferred (some []))).alloc (.loop (rec .ready none)) = W1 := ⟨_, rfl⟩
  have hs1 : W1.heap.size = w.heap.size + 2 := by rw [← hW1]; simp
  have hL1 : W1.heap[w.heap.size + 1]? = some (.loop (rec .ready none)) := by
    rw [← hW1]; have := World.alloc_heap_new (w.alloc (.deferred (some []))) (.loop (rec .ready none)); rwa [World.size_alloc] at this
  have hK1 : W1.heap[w.heap.size]? = some (.deferred (some [])) := by
    rw [← hW1]; exact (Below.heap_alloc _ _ _ (by simp)).trans (World.alloc_heap_new w _)
  have hbw : Below w.heap.size w W1 := by rw [← hW1]; exact ((Below.refl _ w).alloc (Nat.le_refl _) _).alloc (by simp) _
  have hb1 : Below w0.heap.size w0 W1 := hb0.trans (hbw.mono hb0.size)
  have hI1 : I [] (DL w.heap.size (fun _ => False)) W1 := by
    have := hI [] (fun _ => False) w W1 (fun _ h => h.elim) (Nat.le_refl _) h0 (.of_below hbw)
    have e : more (fun _ => False) w W1 = DL w.heap.size (fun _ => False) := by
      funext i; apply propext; unfold more DL; rw [hs1]
      constructor
      · rintro (h | h)
        · exact h.elim
        · exact .inr (by omega)
      · rintro (h | h)
        · exact h.elim
        · exact .inr (by omega)
    rwa [e] at this
  have hlow : ∀ {X : Nat → Prop} {W : World}, From W1.heap.size X W → w.heap.size + 1 < W.heap.size → From w.heap.size (DL w.heap.size X) W := by
    rintro X W hX hl k (h | h | h)
    · have := hX k h; omega
    · omega
    · omega
  have hputI : ∀ {K : List α → (Nat → Prop) → World → Prop} (_ : AbX w.heap.size K) {pre : List α} {X : Nat → Prop} {W : World} (o' : Obj), From W1.heap.size X W → w.heap.size + 1 < W.heap.size → K pre (DL w.heap.size X) W → K pre (DL w.heap.size X) (W.putObj (w.heap.size + 1) o') := by
    intro K hK pre X W o' hX hl hk
    have := hK pre _ W (W.putObj (w.heap.size + 1) o') (hlow hX hl) (by omega) hk (.of_putObj W o' (.inr (.inr rfl)))
    rwa [more_same (by simp)] at this
  refine ⟨w.heap.size + 1, [{ target := .collected w.heap.size, args := #[] }], W1, { target := .fn (.func gf) lb, args := #[.func (.yield (w.heap.size + 1)) #[] #[]] }, W1, gf,
    #[.func (.yield (w.heap.size + 1)) #[] #[]] ++ lb, W1, ?_, ?_, ?_, ?_, fun _ => h1, ?_⟩
  · rw [← hW1, hrec]; exact run_enterLoop_outer _ _ _ _ _
  · simp only [resolve, hg]
    simp [go_sem]
  · intro f' _; trivial
  · simp [invoke, go_sem, eg]
  · refine (hseq (w.heap.size + 1)
      (fun pre X W => I pre (DL w.heap.size X) W ∧ W.heap[w.heap.size + 1]? = some (.loop (rec .ready none)) ∧ W.heap[w.heap.size]? = some (.deferred (some [])))
      (fun pre X W => ∃ c, Ix c pre (DL w.heap.size X) W ∧ W.heap[w.heap.size + 1]? = some (.loop (rec .done (some c))) ∧ W.heap[w.heap.size]? = some (.deferred (some [])))
      W1 hb1 ?_ ?_ ?_ ⟨hI1, hL1, hK1⟩).mono ?_
    · rintro s X A' B' hX hB ⟨hi, hl, hk⟩ hm
      have hlt : w.heap.size + 1 < A'.heap.size := (Array.getElem?_eq_some_iff.1 hl).1
      have := hI s _ A' B' (hlow hX hlt) (by omega) hi (hm.wider (fun _ => .inl))
      rw [more_DL] at this
      exact ⟨this, (hm.block _ hlt (fun e => by have := hX _ e; omega)).trans hl, (hm.block _ (by omega) (fun e => by have := hX _ e; omega)).trans hk⟩
    · rintro s X A' B' hX hB ⟨c, hi, hl, hk⟩ hm
      have hlt : w.heap.size + 1 < A'.heap.size := (Array.getElem?_eq_some_iff.1 hl).1
      have := hIx c s _ A' B' (hlow hX hlt) (by omega) hi (hm.wider (fun _ => .inl))
      rw [more_DL] at this
      exact ⟨c, this, (hm.block _ hlt (fun e => by have := hX _ e; omega)).trans hl, (hm.block _ (by omega) (fun e => by have := hX _ e; omega)).trans hk⟩
    · -- one round
      rintro pre x v X W ⟨hi, hl, hk⟩ hpre hrd hox hX hsW
      have hlt : w.heap.size + 1 < W.heap.size := (Array.getElem?_eq_some_iff.1 hl).1
      have hy := run_yield (P := P) (args := enc x v) hl (by rw [hrec]; exact hps x v)
      rw [hrec] at hy
      have hl2 : (W.putObj (w.heap.size + 1) (.loop { rec .ready none with state := .busy })).heap[w.heap.size + 1]? = some (.loop { rec .ready none with state := .busy }) := World.putObj_heap_same hlt
      have hk2 : (W.putObj (w.heap.size + 1) (.loop { rec .ready none with state := .busy })).heap[w.heap.size]? = some (.deferred (some [])) := (World.putObj_heap_other (by omega)).trans hk
      have hlow2 := hlow hX hlt
      refine ⟨fn, _, assign, body, hy, roundIn_of_wpIn hfn (hround _ pre x v (DL w.heap.size X) _ W (hputI hI _ hX hlt hi) hpre (hRd _ _ _ _ _ _ hl rfl hrd) (fun k e => .inl (hox k e)) (hlow2.size (by simp)) (by simp; omega) _ (hidI (fun a' hbd => ⟨_, run_beginRound hl (by rw [hrec]), wpIn_mono hbd ?_⟩)))⟩
      have keep : ∀ (o' : Obj) (W3 : World), KeepX A (DL w.heap.size X) (W.putObj (w.heap.size + 1) (.loop { rec .ready none with state := .busy })) W3 → KeepX A X W (W3.putObj (w.heap.size + 1) o') := fun o' W3 h3 => by
        refine ⟨by have := h3.size; simp at this ⊢; exact this, fun k hk' => ?_⟩
        have hne : k ≠ w.heap.size + 1 := by
          rcases hk' with e | e
          · have := hA k e; omega
          · have := hX k e; omega
        rw [World.putObj_heap_other hne, h3.same k (hk'.elim .inl (fun e => .inr (.inl e))), World.putObj_heap_other hne]
      have fin : ∀ (A' : Nat → Prop) (jump : Option Code) (W3 : World), KeepX A' (DL w.heap.size X) (W.putObj (w.heap.size + 1) (.loop { rec .ready none with state := .busy })) W3 →
          (Instr.endRound (w.heap.size + 1) jump).run P W3 = .ok (.bool jump.isNone) (W3.putObj (w.heap.size + 1) (.loop (rec (if jump.isNone then .ready else .done) jump))) ∧
          W3.heap[w.heap.size + 1]? = some (.loop { rec .ready none with state := .busy }) ∧
          (W3.putObj (w.heap.size + 1) (.loop (rec (if jump.isNone then .ready else .done) jump))).heap[w.heap.size + 1]? = some (.loop (rec (if jump.isNone then .ready else .done) jump)) ∧
          (W3.putObj (w.heap.size + 1) (.loop (rec (if jump.isNone then .ready else .done) jump))).heap[w.heap.size]? = some (.deferred (some [])) := fun A' jump W3 hk3 => by
        have hl3 := (hk3.same _ (.inr (.inr (.inr rfl)))).trans hl2
        have := run_endRound (P := P) jump hl3
        rw [hrec] at this ⊢
        exact ⟨this, by rw [hrec] at hl3; exact hl3, World.putObj_heap_same (Array.getElem?_eq_some_iff.1 hl3).1, (World.putObj_heap_other (by omega)).trans ((hk3.same _ (.inr (.inr (.inl rfl)))).trans hk2)⟩
      have szs : ∀ {A' : Nat → Prop} {W3 : World}, KeepX A' (DL w.heap.size X) (W.putObj (w.heap.size + 1) (.loop { rec .ready none with state := .busy })) W3 → From W1.heap.size X W3 ∧ w.heap.size + 1 < W3.heap.size ∧ W.heap.size ≤ W3.heap.size := fun {A' W3} hk3 => by
        have := hk3.size; simp at this
        exact ⟨hX.size this, by omega, this⟩
      rintro e a3 W3 hp
      cases e with
      | normal =>
        obtain ⟨hk3, hi3⟩ := hp
        obtain ⟨hr, hl3, hl4, hk4⟩ := fin _ none W3 hk3
        exact ⟨_, _, hr, .inl ⟨rfl, ⟨hputI hI _ (szs hk3).1 (szs hk3).2.1 hi3, hl4, hk4⟩, keep _ _ hk3⟩⟩
      | ret =>
        obtain ⟨hk3, hi3⟩ := hp
        obtain ⟨hr, hl3, hl4, hk4⟩ := fin _ (some .ret) W3 hk3
        exact ⟨_, _, hr, .inr ⟨rfl, ⟨.ret, hputI (hIx _) _ (szs hk3).1 (szs hk3).2.1 hi3, hl4, hk4⟩, by simp; exact (szs hk3).2.2⟩⟩
      | exit id =>
        obtain ⟨hk3, hi3⟩ := hp
        obtain ⟨hr, hl3, hl4, hk4⟩ := fin _ (some (.exit id)) W3 hk3
        exact ⟨_, _, hr, .inr ⟨rfl, ⟨.exit id, hputI (hIx _) _ (szs hk3).1 (szs hk3).2.1 hi3, hl4, hk4⟩, by simp; exact (szs hk3).2.2⟩⟩
      | goto t =>
        obtain ⟨hk3, hi3⟩ := hp
        obtain ⟨hr, hl3, hl4, hk4⟩ := fin _ (some (.goto t)) W3 hk3
        exact ⟨_, _, hr, .inr ⟨rfl, ⟨.goto t, hputI (hIx _) _ (szs hk3).1 (szs hk3).2.1 hi3, hl4, hk4⟩, by simp; exact (szs hk3).2.2⟩⟩
      | panic ch => exact hp.elim
      | outgrown => exact hp.elim
    · -- behind the iterator
      rintro e W2 ⟨⟨v, rfl⟩, X, hX, hs2, (⟨hi, hl, hk⟩ | ⟨pre, hpre, c, hi, hl, hk⟩)⟩
      · have hlt : w.heap.size + 1 < W2.heap.size := (Array.getElem?_eq_some_iff.1 hl).1
        exact ⟨none, _, by have := run_endLoop (P := P) hl (by rw [hrec]; simp); rw [hrec] at this; exact this, hdone _ (DL w.heap.size X) _ (.inr (.inl rfl)) ((hlow hX hlt).size (by simp)) (by simp; omega) (hputI hI _ hX hlt hi) ((World.putObj_heap_other (by omega)).trans hk)⟩
      · have hlt : w.heap.size + 1 < W2.heap.size := (Array.getElem?_eq_some_iff.1 hl).1
        exact ⟨some c, _, by have := run_endLoop (P := P) hl (by rw [hrec]; simp); rw [hrec] at this; exact this, hstop _ (DL w.heap.size X) c pre _ (.inr (.inl rfl)) ((hlow hX hlt).size (by simp)) (by simp; omega) hpre (hputI (hIx c) _ hX hlt hi) ((World.putObj_heap_other (by omega)).trans hk)⟩
end Go.Proofs.Ytmmggbcmailbiaa
