/- Permutations of few places and the groups that they make: plain laws. -/
import Derived.Test.YtmmggbcmailbiaaBase
namespace Go.Proofs.Ytmmggbcmailbiaa.Grp

/-! Lists without repeats. -/

theorem len_le {α : Type} [DecidableEq α] : ∀ {l m : List α}, l.Nodup → (∀ x ∈ l, x ∈ m) → l.length ≤ m.length
  | [], _, _, _ => Nat.zero_le _
  | a :: l, m, h, hs => by
    obtain ⟨h1, h2⟩ := List.nodup_cons.1 h
    have ha : a ∈ m := hs a (by simp)
    have := len_le (l := l) (m := m.erase a) h2 (fun x hx => by
      have hne : x ≠ a := fun e => h1 (e ▸ hx)
      exact (List.mem_erase_of_ne hne).2 (hs x (by simp [hx])))
    rw [List.length_erase_of_mem ha] at this
    have : 0 < m.length := List.length_pos_of_mem ha
    simp only [List.length_cons]
    omega

theorem mem_full {α : Type} [DecidableEq α] {l m : List α} (h : l.Nodup) (hs : ∀ x ∈ l, x ∈ m) (hl : m.length ≤ l.length) {y : α} (hy : y ∈ m) : y ∈ l := by
  apply Classical.byContradiction
  intro hn
  have := len_le (l := y :: l) (m := m) (List.nodup_cons.2 ⟨hn, h⟩) (fun x hx => by
    rcases List.mem_cons.1 hx with rfl | hx
    · exact hy
    · exact hs x hx)
  simp only [List.length_cons] at this
  omega

theorem nodup_map {α β : Type} (f : α → β) : ∀ {l : List α}, l.Nodup → (∀ x ∈ l, ∀ y ∈ l, f x = f y → x = y) → (l.map f).Nodup
  | [], _, _ => List.nodup_nil
  | a :: l, h, hi => by
    obtain ⟨h1, h2⟩ := List.nodup_cons.1 h
    refine List.nodup_cons.2 ⟨?_, nodup_map f h2 (fun x hx y hy => hi x (by simp [hx]) y (by simp [hy]))⟩
    intro hm
    obtain ⟨x, hx, e⟩ := List.mem_map.1 hm
    exact h1 (hi a (by simp) x (by simp [hx]) e.symm ▸ hx)

/-! Growing lists. -/

section
variable {κ τ : Type} [DecidableEq κ]

def addK (L : List (κ × τ)) (x : κ × τ) : List (κ × τ) := if x.1 ∈ L.map Prod.fst then L else L ++ [x]
def adds (L : List (κ × τ)) (xs : List (κ × τ)) : List (κ × τ) := xs.foldl addK L
def bfs (next : κ × τ → List (κ × τ)) : Nat → Nat → List (κ × τ) → List (κ × τ)
  | 0, _, L => L
  | f + 1, k, L => match L[k]? with
    | none => L
    | some x => bfs next f (k + 1) (adds L (next x))

theorem addK_pre (L : List (κ × τ)) (x : κ × τ) : L <+: addK L x := by
  unfold addK; split
  · exact List.prefix_refl _
  · exact List.prefix_append _ _

theorem adds_pre : ∀ (xs L : List (κ × τ)), L <+: adds L xs
  | [], L => List.prefix_refl _
  | x :: xs, L => (addK_pre L x).trans (adds_pre xs (addK L x))

theorem bfs_pre (next : κ × τ → List (κ × τ)) : ∀ (f k : Nat) (L : List (κ × τ)), L <+: bfs next f k L
  | 0, _, L => List.prefix_refl _
  | f + 1, k, L => by
    unfold bfs
    split
    · exact List.prefix_refl _
    · exact (adds_pre _ L).trans (bfs_pre next f (k + 1) _)

theorem addK_inv {Inv : κ × τ → Prop} {L : List (κ × τ)} {x : κ × τ} (h : ∀ y ∈ L, Inv y) (hx : Inv x) : ∀ y ∈ addK L x, Inv y := by
  unfold addK; split
  · exact h
  · intro y hy
    rcases List.mem_append.1 hy with hy | hy
    · exact h y hy
    · rw [List.mem_singleton.1 hy]; exact hx

theorem adds_inv {Inv : κ × τ → Prop} : ∀ {xs L : List (κ × τ)}, (∀ y ∈ L, Inv y) → (∀ y ∈ xs, Inv y) → ∀ y ∈ adds L xs, Inv y
  | [], L, h, _ => h
  | x :: xs, L, h, hx => adds_inv (xs := xs) (addK_inv h (hx x (by simp))) (fun y hy => hx y (by simp [hy]))

theorem addK_nodup {L : List (κ × τ)} {x : κ × τ} (h : (L.map Prod.fst).Nodup) : ((addK L x).map Prod.fst).Nodup := by
  unfold addK; split
  · exact h
  · rename_i hn
    rw [List.map_append, List.nodup_append]
    refine ⟨h, by simp, ?_⟩
    intro a ha b hb e
    simp at hb
    exact hn (hb ▸ e ▸ ha)

theorem adds_nodup : ∀ {xs L : List (κ × τ)}, (L.map Prod.fst).Nodup → ((adds L xs).map Prod.fst).Nodup
  | [], L, h => h
  | x :: xs, L, h => adds_nodup (xs := xs) (addK_nodup h)

omit [DecidableEq κ] in
theorem keys_pre {L R : List (κ × τ)} (h : L <+: R) {a : κ} (ha : a ∈ L.map Prod.fst) : a ∈ R.map Prod.fst := by
  obtain ⟨x, hx, rfl⟩ := List.mem_map.1 ha
  exact List.mem_map_of_mem (h.subset hx)

theorem addK_mem (L : List (κ × τ)) (x : κ × τ) : x.1 ∈ (addK L x).map Prod.fst := by
  unfold addK; split
  · assumption
  · simp

theorem adds_mem : ∀ (xs L : List (κ × τ)), ∀ x ∈ xs, x.1 ∈ (adds L xs).map Prod.fst
  | [], _, _, h => by simp at h
  | y :: xs, L, x, h => by
    rcases List.mem_cons.1 h with rfl | h
    · exact keys_pre (adds_pre xs _) (addK_mem L x)
    · exact adds_mem xs _ x h

/-- The first k have been worked off. -/
def Off (next : κ × τ → List (κ × τ)) (k : Nat) (L : List (κ × τ)) : Prop :=
  ∀ i, i < k → ∀ x, L[i]? = some x → ∀ y ∈ next x, y.1 ∈ L.map Prod.fst

theorem pre_get {α : Type} {L R : List α} (h : L <+: R) {i : Nat} (hi : i < L.length) : R[i]? = L[i]? := by
  obtain ⟨t, rfl⟩ := h
  rw [List.getElem?_append_left hi]

theorem bfs_all (next : κ × τ → List (κ × τ)) (Inv : κ × τ → Prop) (U : List κ) (hU : ∀ x, Inv x → x.1 ∈ U) (hn : ∀ x, Inv x → ∀ y ∈ next x, Inv y) :
    ∀ (f k : Nat) (L : List (κ × τ)), (∀ x ∈ L, Inv x) → (L.map Prod.fst).Nodup → Off next k L → k ≤ L.length → U.length ≤ k + f →
      (∀ x ∈ bfs next f k L, Inv x) ∧ ((bfs next f k L).map Prod.fst).Nodup ∧ Off next (bfs next f k L).length (bfs next f k L)
  | 0, k, L, hI, hN, hO, hk, hf => by
    have hle : (L.map Prod.fst).length ≤ U.length := len_le hN (fun a ha => by
      obtain ⟨x, hx, rfl⟩ := List.mem_map.1 ha
      exact hU x (hI x hx))
    rw [List.length_map] at hle
    have : k = L.length := by omega
    subst this
    exact ⟨hI, hN, hO⟩
  | f + 1, k, L, hI, hN, hO, hk, hf => by
    unfold bfs
    cases e : L[k]? with
    | none =>
      have : L.length ≤ k := List.getElem?_eq_none_iff.1 e
      have : k = L.length := by omega
      subst this
      exact ⟨hI, hN, hO⟩
    | some x =>
      have hx : x ∈ L := List.mem_of_getElem? e
      have hkl : k < L.length := (List.getElem?_eq_some_iff.1 e).1
      have hp := adds_pre (next x) L
      refine bfs_all next Inv U hU hn f (k + 1) (adds L (next x)) (adds_inv hI (hn x (hI x hx))) (adds_nodup hN) ?_ ?_ (by omega)
      · intro i hi z hz y hy
        have hil : i < L.length := by omega
        rw [pre_get hp hil] at hz
        rcases Nat.lt_or_ge i k with h | h
        · exact keys_pre hp (hO i h z hz y hy)
        · have : i = k := by omega
          subst this
          rw [e] at hz
          injection hz with hz
          subst hz
          exact adds_mem _ _ y hy
      · have := hp.length_le
        omega
end

/-! Permutations. -/

abbrev Pm := List Nat
def ap (p : Pm) (x : Nat) : Nat := p.getD x 0
structure IsP (n : Nat) (p : Pm) : Prop where
  len : p.length = n
  lt : ∀ x ∈ p, x < n
  nodup : p.Nodup

def join (a b : Pm) : Pm := a.map (ap b)
def turn (p : Pm) : Pm := (List.range p.length).map (fun x => p.idxOf x)
abbrev idP (n : Nat) : Pm := List.range n

theorem ap_mem {p : Pm} {x : Nat} (h : x < p.length) : ap p x ∈ p := by
  unfold ap; rw [List.getD_eq_getElem?_getD, List.getElem?_eq_getElem h]; simp

theorem ap_lt {n : Nat} {p : Pm} (h : IsP n p) {x : Nat} (hx : x < n) : ap p x < n := h.lt _ (ap_mem (by rw [h.len]; exact hx))

theorem ap_inj {n : Nat} {p : Pm} (h : IsP n p) {x y : Nat} (hx : x < n) (hy : y < n) (e : ap p x = ap p y) : x = y := by
  have hx' : x < p.length := by rw [h.len]; exact hx
  have hy' : y < p.length := by rw [h.len]; exact hy
  unfold ap at e
  rw [List.getD_eq_getElem?_getD, List.getD_eq_getElem?_getD, List.getElem?_eq_getElem hx', List.getElem?_eq_getElem hy'] at e
  exact (List.getElem_inj h.nodup).1 e

theorem pm_ext {n : Nat} {p q : Pm} (hp : p.length = n) (hq : q.length = n) (h : ∀ x, x < n → ap p x = ap q x) : p = q := by
  apply List.ext_getElem (by omega)
  intro i h1 h2
  have := h i (by omega)
  unfold ap at this
  rw [List.getD_eq_getElem?_getD, List.getD_eq_getElem?_getD, List.getElem?_eq_getElem h1, List.getElem?_eq_getElem h2] at this
  exact this

theorem ap_join {n : Nat} {a : Pm} (b : Pm) (ha : IsP n a) {x : Nat} (hx : x < n) : ap (join a b) x = ap b (ap a x) := by
  have hx' : x < a.length := by rw [ha.len]; exact hx
  unfold join
  show (a.map (ap b)).getD x 0 = _
  rw [List.getD_eq_getElem?_getD, List.getElem?_map, List.getElem?_eq_getElem hx']
  unfold ap
  rw [List.getD_eq_getElem?_getD (l := a), List.getElem?_eq_getElem hx']
  rfl

theorem isP_id (n : Nat) : IsP n (idP n) := ⟨List.length_range, fun _ h => List.mem_range.1 h, List.nodup_range⟩

theorem ap_id {n x : Nat} (hx : x < n) : ap (idP n) x = x := by
  unfold ap; rw [List.getD_eq_getElem?_getD, List.getElem?_range hx]; rfl

theorem isP_join {n : Nat} {a b : Pm} (ha : IsP n a) (hb : IsP n b) : IsP n (join a b) := by
  refine ⟨by unfold join; rw [List.length_map, ha.len], ?_, ?_⟩
  · intro x hx
    obtain ⟨y, hy, rfl⟩ := List.mem_map.1 hx
    exact ap_lt hb (ha.lt y hy)
  · exact nodup_map _ ha.nodup (fun x hx y hy e => ap_inj hb (ha.lt x hx) (ha.lt y hy) e)

theorem mem_isP {n : Nat} {p : Pm} (h : IsP n p) {y : Nat} (hy : y < n) : y ∈ p :=
  mem_full h.nodup (m := List.range n) (fun x hx => List.mem_range.2 (h.lt x hx)) (by rw [List.length_range, h.len]; exact Nat.le_refl _) (List.mem_range.2 hy)

theorem ap_turn {p : Pm} {x : Nat} (hx : x < p.length) : ap (turn p) x = p.idxOf x := by
  unfold ap turn
  rw [List.getD_eq_getElem?_getD, List.getElem?_map, List.getElem?_range hx]; rfl

theorem ap_idx {n : Nat} {p : Pm} (h : IsP n p) {y : Nat} (hy : y < n) : ap p (p.idxOf y) = y := by
  have hm := mem_isP h hy
  have hl := List.idxOf_lt_length_of_mem hm
  unfold ap
  rw [List.getD_eq_getElem?_getD, List.getElem?_eq_getElem hl]
  exact List.getElem_idxOf hl

theorem isP_turn {n : Nat} {p : Pm} (h : IsP n p) : IsP n (turn p) := by
  refine ⟨by unfold turn; rw [List.length_map, List.length_range, h.len], ?_, ?_⟩
  · intro x hx
    obtain ⟨y, hy, rfl⟩ := List.mem_map.1 hx
    rw [← h.len]
    exact List.idxOf_lt_length_of_mem (mem_isP h (by rw [← h.len]; exact List.mem_range.1 hy))
  · refine nodup_map _ List.nodup_range (fun x hx y hy e => ?_)
    have hx := List.mem_range.1 hx
    have hy := List.mem_range.1 hy
    rw [h.len] at hx hy
    rw [← ap_idx h hx, ← ap_idx h hy, e]

theorem ap_turn_ap {n : Nat} {p : Pm} (h : IsP n p) {x : Nat} (hx : x < n) : ap (turn p) (ap p x) = x := by
  have h1 := ap_lt h hx
  have h2 : ap (turn p) (ap p x) < n := ap_lt (isP_turn h) h1
  refine ap_inj h h2 hx ?_
  rw [ap_turn (by rw [h.len]; exact h1), ap_idx h h1]

theorem ap_ap_turn {n : Nat} {p : Pm} (h : IsP n p) {x : Nat} (hx : x < n) : ap p (ap (turn p) x) = x := by
  rw [ap_turn (by rw [h.len]; exact hx), ap_idx h hx]

theorem join_assoc {n : Nat} {a b c : Pm} (ha : IsP n a) (hb : IsP n b) (hc : IsP n c) : join (join a b) c = join a (join b c) := by
  have hab := isP_join ha hb
  have hbc := isP_join hb hc
  refine pm_ext (isP_join hab hc).len (isP_join ha hbc).len (fun x hx => ?_)
  rw [ap_join _ hab hx, ap_join _ ha hx, ap_join _ ha hx, ap_join _ hb (ap_lt ha hx)]

theorem join_id {n : Nat} {a : Pm} (ha : IsP n a) : join a (idP n) = a :=
  pm_ext (isP_join ha (isP_id n)).len ha.len (fun x hx => by rw [ap_join _ ha hx, ap_id (ap_lt ha hx)])

theorem id_join {n : Nat} {a : Pm} (ha : IsP n a) : join (idP n) a = a :=
  pm_ext (isP_join (isP_id n) ha).len ha.len (fun x hx => by rw [ap_join _ (isP_id n) hx, ap_id hx])

theorem join_turn {n : Nat} {a : Pm} (ha : IsP n a) : join a (turn a) = idP n :=
  pm_ext (isP_join ha (isP_turn ha)).len (isP_id n).len (fun x hx => by rw [ap_join _ ha hx, ap_turn_ap ha hx, ap_id hx])

theorem turn_join {n : Nat} {a : Pm} (ha : IsP n a) : join (turn a) a = idP n :=
  pm_ext (isP_join (isP_turn ha) ha).len (isP_id n).len (fun x hx => by rw [ap_join _ (isP_turn ha) hx, ap_ap_turn ha hx, ap_id hx])

theorem join_right {n : Nat} {a b c : Pm} (ha : IsP n a) (hb : IsP n b) (hc : IsP n c) (e : join a c = join b c) : a = b := by
  rw [← join_id ha, ← join_id hb, ← join_turn hc, ← join_assoc ha hc (isP_turn hc), ← join_assoc hb hc (isP_turn hc), e]

theorem join_left {n : Nat} {a b c : Pm} (ha : IsP n a) (hb : IsP n b) (hc : IsP n c) (e : join c a = join c b) : a = b := by
  rw [← id_join ha, ← id_join hb, ← turn_join hc, join_assoc (isP_turn hc) hc ha, join_assoc (isP_turn hc) hc hb, e]

theorem turn_turn {n : Nat} {a : Pm} (ha : IsP n a) : turn (turn a) = a :=
  join_left (isP_turn (isP_turn ha)) ha (isP_turn ha) (by rw [join_turn (isP_turn ha), turn_join ha])

theorem turn_of {n : Nat} {a b : Pm} (ha : IsP n a) (hb : IsP n b) (e : join a b = idP n) : b = turn a :=
  join_left hb (isP_turn ha) ha (by rw [e, join_turn ha])

/-! What permutations make, one after the other. -/

inductive Gen (n : Nat) (ms : List Pm) : Pm → Prop
  | one : Gen n ms (idP n)
  | step {p m : Pm} : Gen n ms p → m ∈ ms → Gen n ms (join p m)

def OkM (n : Nat) (ms : List Pm) : Prop := ∀ m ∈ ms, IsP n m

theorem Gen.isP {n : Nat} {ms : List Pm} (h : OkM n ms) {p : Pm} (hp : Gen n ms p) : IsP n p := by
  induction hp with
  | one => exact isP_id n
  | step _ hm ih => exact isP_join ih (h _ hm)

theorem Gen.join {n : Nat} {ms : List Pm} (h : OkM n ms) {p q : Pm} (hp : Gen n ms p) (hq : Gen n ms q) : Gen n ms (join p q) := by
  induction hq with
  | one => rw [join_id (hp.isP h)]; exact hp
  | step hq hm ih => rw [← join_assoc (hp.isP h) (hq.isP h) (h _ hm)]; exact ih.step hm

theorem Gen.gen {n : Nat} {ms : List Pm} (h : OkM n ms) {m : Pm} (hm : m ∈ ms) : Gen n ms m := by
  have := (Gen.one (n := n) (ms := ms)).step hm
  rwa [id_join (h m hm)] at this

/-- All lists of so many numbers below n. -/
def lists (n : Nat) : Nat → List (List Nat)
  | 0 => [[]]
  | k + 1 => (List.range n).flatMap (fun x => (lists n k).map (x :: ·))

theorem mem_lists (n : Nat) : ∀ (k : Nat) (l : List Nat), l.length = k → (∀ x ∈ l, x < n) → l ∈ lists n k
  | 0, l, h, _ => by rw [List.eq_nil_of_length_eq_zero h]; simp [lists]
  | k + 1, [], h, _ => by simp at h
  | k + 1, x :: l, h, hx => by
    unfold lists
    rw [List.mem_flatMap]
    exact ⟨x, List.mem_range.2 (hx x (by simp)), List.mem_map_of_mem (mem_lists n k l (by simpa using h) (fun y hy => hx y (by simp [hy])))⟩

/-- The permutations that are made, each with a word. -/
def nextW (ms : List Pm) (x : Pm × List Nat) : List (Pm × List Nat) := ms.zipIdx.map (fun m => (join x.1 m.1, x.2 ++ [m.2]))
def fuelW : Nat := 3125
def groupW (n : Nat) (ms : List Pm) : List (Pm × List Nat) := bfs (nextW ms) fuelW 0 [(idP n, [])]
def groupL (n : Nat) (ms : List Pm) : List Pm := (groupW n ms).map Prod.fst

theorem lists_len (n : Nat) (h : n ≤ 5) : (lists n n).length ≤ 3125 := by
  have : n = 0 ∨ n = 1 ∨ n = 2 ∨ n = 3 ∨ n = 4 ∨ n = 5 := by omega
  have key : ∀ k, (lists n k).length = n ^ k := by
    intro k
    induction k with
    | zero => rfl
    | succ k ih =>
      unfold lists
      rw [List.length_flatMap]
      have : (List.range n).map (fun x => ((lists n k).map (x :: ·)).length) = (List.range n).map (fun _ => n ^ k) := by
        apply List.map_congr_left; intro x _; rw [List.length_map, ih]
      rw [this, List.map_const', List.sum_replicate_nat, List.length_range, Nat.pow_succ, Nat.mul_comm]
  rw [key]
  rcases this with rfl | rfl | rfl | rfl | rfl | rfl <;> decide

/-- A word that makes a permutation. -/
def wordP (n : Nat) (ms : List Pm) (w : List Nat) : Pm := w.foldl (fun p j => join p (ms.getD j [])) (idP n)

theorem groupW_facts {n : Nat} {ms : List Pm} (hn : n ≤ 5) (h : OkM n ms) :
    (∀ x ∈ groupW n ms, Gen n ms x.1 ∧ (∀ j ∈ x.2, j < ms.length) ∧ wordP n ms x.2 = x.1) ∧ (groupL n ms).Nodup ∧ Off (nextW ms) (groupW n ms).length (groupW n ms) := by
  refine bfs_all (nextW ms) (fun x => Gen n ms x.1 ∧ (∀ j ∈ x.2, j < ms.length) ∧ wordP n ms x.2 = x.1) (lists n n) ?_ ?_ fuelW 0 [(idP n, [])] ?_ ?_ ?_ ?_ ?_
  · rintro ⟨p, w⟩ ⟨hp, _⟩
    have := hp.isP h
    exact mem_lists n n p this.len this.lt
  · rintro ⟨p, w⟩ ⟨hp, hw, he⟩ y hy
    obtain ⟨⟨m, j⟩, hm, rfl⟩ := List.mem_map.1 hy
    have hj := List.mem_zipIdx_iff_getElem?.1 hm
    have hmm : m ∈ ms := List.mem_of_getElem? hj
    have hjl : j < ms.length := (List.getElem?_eq_some_iff.1 hj).1
    refine ⟨hp.step hmm, ?_, ?_⟩
    · intro i hi
      rcases List.mem_append.1 hi with hi | hi
      · exact hw i hi
      · rw [List.mem_singleton.1 hi]; exact hjl
    · show wordP n ms (w ++ [j]) = _
      unfold wordP at he ⊢
      dsimp only at he
      rw [List.foldl_append, he]
      show Grp.join p (ms.getD j []) = _
      rw [List.getD_eq_getElem?_getD, hj]; rfl
  · intro x hx
    rw [List.mem_singleton.1 hx]
    exact ⟨Gen.one, by simp, rfl⟩
  · simp
  · intro i hi; omega
  · simp
  · have := lists_len n hn
    unfold fuelW; omega

theorem groupL_mem {n : Nat} {ms : List Pm} (hn : n ≤ 5) (h : OkM n ms) (p : Pm) : p ∈ groupL n ms ↔ Gen n ms p := by
  obtain ⟨h1, _, h3⟩ := groupW_facts hn h
  constructor
  · intro hp
    obtain ⟨x, hx, rfl⟩ := List.mem_map.1 hp
    exact (h1 x hx).1
  · intro hp
    induction hp with
    | one => exact keys_pre (bfs_pre _ _ _ _) (by simp)
    | @step p m hp hm ih =>
      obtain ⟨x, hx, rfl⟩ := List.mem_map.1 ih
      obtain ⟨i, hi⟩ := List.getElem?_of_mem hx
      obtain ⟨j, hj⟩ := List.getElem?_of_mem hm
      exact h3 i (List.getElem?_eq_some_iff.1 hi).1 x hi (Grp.join x.1 m, x.2 ++ [j]) (List.mem_map.2 ⟨(m, j), List.mem_zipIdx_iff_getElem?.2 hj, rfl⟩)

theorem Gen.turn {n : Nat} {ms : List Pm} (hn : n ≤ 5) (h : OkM n ms) {p : Pm} (hp : Gen n ms p) : Gen n ms (turn p) := by
  obtain ⟨_, h2, _⟩ := groupW_facts hn h
  have hmem := groupL_mem hn h
  have hN : ((groupL n ms).map (fun q => Grp.join q p)).Nodup := nodup_map _ h2 (fun x hx y hy e => join_right (((hmem x).1 hx).isP h) (((hmem y).1 hy).isP h) (hp.isP h) e)
  have := mem_full hN (m := groupL n ms) (fun x hx => by
    obtain ⟨q, hq, rfl⟩ := List.mem_map.1 hx
    exact (hmem _).2 (((hmem q).1 hq).join h hp)) (by rw [List.length_map]; exact Nat.le_refl _) ((hmem _).2 (Gen.one (n := n) (ms := ms)))
  obtain ⟨q, hq, e⟩ := List.mem_map.1 this
  have hq' := (hmem q).1 hq
  have : q = Grp.turn p := by
    refine join_right (hq'.isP h) (isP_turn (hp.isP h)) (hp.isP h) ?_
    rw [turn_join (hp.isP h)]; exact e
  rw [← this]; exact hq'

theorem Gen.mono {n : Nat} {ms ks : List Pm} (h : OkM n ks) (hs : ∀ m ∈ ms, Gen n ks m) {p : Pm} (hp : Gen n ms p) : Gen n ks p := by
  induction hp with
  | one => exact Gen.one
  | step _ hm ih => exact ih.join h (hs _ hm)
/-! Lists that are groups; counting. -/

structure GrpL (n : Nat) (G : List Pm) : Prop where
  nodup : G.Nodup
  isP : ∀ g ∈ G, IsP n g
  one : idP n ∈ G
  join : ∀ a ∈ G, ∀ b ∈ G, join a b ∈ G
  turn : ∀ a ∈ G, turn a ∈ G

theorem grp_groupL {n : Nat} {ms : List Pm} (hn : n ≤ 5) (h : OkM n ms) : GrpL n (groupL n ms) :=
  ⟨(groupW_facts hn h).2.1, fun g hg => ((groupL_mem hn h g).1 hg).isP h, (groupL_mem hn h _).2 Gen.one,
    fun a ha b hb => (groupL_mem hn h _).2 (((groupL_mem hn h a).1 ha).join h ((groupL_mem hn h b).1 hb)),
    fun a ha => (groupL_mem hn h _).2 (((groupL_mem hn h a).1 ha).turn hn h)⟩

theorem len_same {α : Type} [DecidableEq α] {l m : List α} (hl : l.Nodup) (hm : m.Nodup) (h : ∀ x, x ∈ l ↔ x ∈ m) : l.length = m.length :=
  Nat.le_antisymm (len_le hl (fun x hx => (h x).1 hx)) (len_le hm (fun x hx => (h x).2 hx))

theorem len_parts {α : Type} (p : α → Bool) : ∀ (l : List α), l.length = (l.filter p).length + (l.filter (fun x => !p x)).length
  | [] => rfl
  | a :: l => by
    have := len_parts p l
    rw [List.filter_cons, List.filter_cons]
    cases h : p a <;> simp <;> omega

/-- The sum of f over a list. -/
def sumOn {α : Type} (l : List α) (f : α → Nat) : Nat := (l.map f).sum

theorem sumOn_nil {α : Type} (f : α → Nat) : sumOn [] f = 0 := rfl
theorem sumOn_cons {α : Type} (a : α) (l : List α) (f : α → Nat) : sumOn (a :: l) f = f a + sumOn l f := by
  unfold sumOn; rw [List.map_cons, List.sum_cons]

theorem sumOn_const {α : Type} (l : List α) (f : α → Nat) (c : Nat) (h : ∀ x ∈ l, f x = c) : sumOn l f = l.length * c := by
  induction l with
  | nil => rw [sumOn_nil]; simp
  | cons a l ih =>
    rw [sumOn_cons, h a (by simp), ih (fun x hx => h x (by simp [hx])), List.length_cons, Nat.succ_mul]
    omega

theorem sumOn_congr {α : Type} (l : List α) (f g : α → Nat) (h : ∀ x ∈ l, f x = g x) : sumOn l f = sumOn l g := by
  unfold sumOn; rw [List.map_congr_left h]

theorem sumOn_filter {α : Type} (l : List α) (f : α → Nat) (p : α → Bool) : sumOn l f = sumOn (l.filter p) f + sumOn (l.filter (fun x => !p x)) f := by
  induction l with
  | nil => rfl
  | cons a l ih =>
    rw [List.filter_cons, List.filter_cons, sumOn_cons, ih]
    cases h : p a
    · simp [sumOn_cons]; omega
    · simp [sumOn_cons]; omega

theorem sumOn_add {α : Type} (l : List α) (f g : α → Nat) : sumOn l (fun x => f x + g x) = sumOn l f + sumOn l g := by
  induction l with
  | nil => rfl
  | cons a l ih => rw [sumOn_cons, sumOn_cons, sumOn_cons, ih]; omega

theorem sumOn_zero {α : Type} (l : List α) : sumOn l (fun _ => 0) = 0 := by rw [sumOn_const l _ 0 (fun _ _ => rfl)]; simp

theorem sumOn_swap {α β : Type} (l : List α) (m : List β) (f : α → β → Nat) : sumOn l (fun x => sumOn m (f x)) = sumOn m (fun y => sumOn l (fun x => f x y)) := by
  induction l with
  | nil => rw [sumOn_nil]; symm; show sumOn m (fun y => sumOn [] (fun x => f x y)) = 0; exact sumOn_zero m
  | cons a l ih =>
    rw [sumOn_cons, ih, ← sumOn_add]
    exact sumOn_congr _ _ _ (fun y _ => (sumOn_cons a l (fun x => f x y)).symm)

theorem len_filter {α : Type} (p : α → Bool) (l : List α) : (l.filter p).length = sumOn l (fun x => if p x then 1 else 0) := by
  induction l with
  | nil => rfl
  | cons a l ih =>
    rw [List.filter_cons, sumOn_cons, ← ih]
    cases p a <;> simp <;> omega

/-- A sum is the sum of the sums over the fibres. -/
theorem sum_fibres {α β : Type} [DecidableEq β] (f : α → β) (F : α → Nat) : ∀ (O : List β) (l : List α), O.Nodup → (∀ x ∈ l, f x ∈ O) → sumOn l F = sumOn O (fun y => sumOn (l.filter (fun x => decide (f x = y))) F)
  | [], l, _, h => by
    cases l with
    | nil => rfl
    | cons a l => have := h a (by simp); simp at this
  | y :: O, l, hO, h => by
    obtain ⟨h1, h2⟩ := List.nodup_cons.1 hO
    rw [sumOn_cons, sumOn_filter l F (fun x => decide (f x = y))]
    congr 1
    rw [sum_fibres f F O (l.filter (fun x => !decide (f x = y))) h2 (fun x hx => by
      obtain ⟨hx, hy⟩ := List.mem_filter.1 hx
      rcases List.mem_cons.1 (h x hx) with e | e
      · simp [e] at hy
      · exact e)]
    refine sumOn_congr _ _ _ (fun z hz => ?_)
    congr 1
    rw [List.filter_filter]
    apply List.filter_congr
    intro x _
    by_cases e : f x = z
    · have : f x ≠ y := fun e2 => h1 (by rw [← e2, e]; exact hz)
      simp [e]
      intro e3; exact this (e.trans e3)
    · simp [e]

theorem sumOn_one {α : Type} (l : List α) : sumOn l (fun _ => 1) = l.length := by rw [sumOn_const l _ 1 (fun _ _ => rfl)]; omega

/-- Those that leave a place. -/
def stab (G : List Pm) (x : Nat) : List Pm := G.filter (fun g => decide (ap g x = x))

theorem fibre_len {n : Nat} {G : List Pm} (h : GrpL n G) {x : Nat} (hx : x < n) {t : Pm} (ht : t ∈ G) : (G.filter (fun g => decide (ap g x = ap t x))).length = (stab G x).length := by
  have hP := h.isP t ht
  have hT := isP_turn hP
  apply Nat.le_antisymm
  · have := len_le (l := (G.filter (fun g => decide (ap g x = ap t x))).map (fun g => join g (turn t))) (m := stab G x)
      (nodup_map _ (h.nodup.filter _) (fun a ha b hb e => join_right (h.isP a (List.mem_filter.1 ha).1) (h.isP b (List.mem_filter.1 hb).1) hT e))
      (fun p hp => by
        obtain ⟨g, hg, rfl⟩ := List.mem_map.1 hp
        obtain ⟨hg, he⟩ := List.mem_filter.1 hg
        have he := of_decide_eq_true he
        refine List.mem_filter.2 ⟨h.join g hg _ (h.turn t ht), decide_eq_true ?_⟩
        rw [ap_join _ (h.isP g hg) hx, he, ap_turn_ap hP hx])
    rwa [List.length_map] at this
  · have := len_le (l := (stab G x).map (fun g => join g t)) (m := G.filter (fun g => decide (ap g x = ap t x)))
      (nodup_map _ (h.nodup.filter _) (fun a ha b hb e => join_right (h.isP a (List.mem_filter.1 ha).1) (h.isP b (List.mem_filter.1 hb).1) hP e))
      (fun p hp => by
        obtain ⟨g, hg, rfl⟩ := List.mem_map.1 hp
        obtain ⟨hg, he⟩ := List.mem_filter.1 hg
        have he := of_decide_eq_true he
        refine List.mem_filter.2 ⟨h.join g hg _ ht, decide_eq_true ?_⟩
        rw [ap_join _ (h.isP g hg) hx, he])
    rwa [List.length_map] at this

/-- The orbit, and those that leave its place: together all. -/
theorem orbit_stab {n : Nat} {G : List Pm} (h : GrpL n G) {x : Nat} (hx : x < n) {O : List Nat} (hO : O.Nodup) (hm : ∀ y, y ∈ O ↔ ∃ g ∈ G, ap g x = y) : G.length = O.length * (stab G x).length := by
  rw [← sumOn_one, sum_fibres (fun g => ap g x) (fun _ => 1) O G hO (fun g hg => (hm _).2 ⟨g, hg, rfl⟩)]
  refine sumOn_const _ _ _ (fun y hy => ?_)
  obtain ⟨t, ht, rfl⟩ := (hm y).1 hy
  rw [sumOn_one]
  exact fibre_len h hx ht

/-- A part that is a group divides. -/
theorem coset_div {n : Nat} {H K : List Pm} (hH : GrpL n H) (hK : GrpL n K) : ∀ (N : Nat) (L : List Pm), L.length ≤ N → L.Nodup → (∀ g ∈ L, g ∈ K) → (∀ g ∈ L, ∀ a ∈ H, join a g ∈ L) → H.length ∣ L.length
  | 0, L, hl, _, _, _ => by
    have : L.length = 0 := by omega
    rw [this]; exact Nat.dvd_zero _
  | N + 1, [], _, _, _, _ => Nat.dvd_zero _
  | N + 1, g :: L0, hl, hN, hs, hc => by
    obtain ⟨L, hL⟩ : ∃ L, L = g :: L0 := ⟨_, rfl⟩
    rw [← hL] at hl hN hs hc ⊢
    have hg : g ∈ L := by rw [hL]; simp
    have hgP := hK.isP g (hs g hg)
    have hHP := hH.isP
    obtain ⟨C, hC⟩ : ∃ C, C = H.map (fun a => join a g) := ⟨_, rfl⟩
    have hCm : ∀ p, p ∈ C ↔ ∃ a ∈ H, join a g = p := fun p => by rw [hC]; exact List.mem_map
    have hCN : C.Nodup := by rw [hC]; exact nodup_map _ hH.nodup (fun a ha b hb e => join_right (hHP a ha) (hHP b hb) hgP e)
    have hCl : C.length = H.length := by rw [hC, List.length_map]
    have h1 : (L.filter (fun p => decide (p ∈ C))).length = C.length := len_same (hN.filter _) hCN (fun p => by
      constructor
      · intro hp; exact of_decide_eq_true (List.mem_filter.1 hp).2
      · intro hp
        obtain ⟨a, ha, rfl⟩ := (hCm p).1 hp
        exact List.mem_filter.2 ⟨hc g hg a ha, decide_eq_true hp⟩)
    have h2 := len_parts (fun p => decide (p ∈ C)) L
    have hpos : 0 < H.length := List.length_pos_of_mem hH.one
    have h3 := coset_div hH hK N (L.filter (fun p => !decide (p ∈ C))) (by omega) (hN.filter _) (fun p hp => hs p (List.mem_filter.1 hp).1) (fun p hp a ha => by
      obtain ⟨hp, hnc⟩ := List.mem_filter.1 hp
      refine List.mem_filter.2 ⟨hc p hp a ha, ?_⟩
      have hnc : p ∉ C := by simpa using hnc
      have : join a p ∉ C := by
        intro hm
        obtain ⟨b, hb, e⟩ := (hCm _).1 hm
        refine hnc ((hCm p).2 ⟨join (turn a) b, hH.join _ (hH.turn a ha) b hb, ?_⟩)
        have hpP := hK.isP p (hs p hp)
        rw [join_assoc (isP_turn (hHP a ha)) (hHP b hb) hgP, e, ← join_assoc (isP_turn (hHP a ha)) (hHP a ha) hpP, turn_join (hHP a ha), id_join hpP]
      simpa using this)
    rw [h2, h1, hCl]
    exact Nat.dvd_add (Nat.dvd_refl _) h3

theorem lagrange {n : Nat} {H K : List Pm} (hH : GrpL n H) (hK : GrpL n K) (hs : ∀ g ∈ H, g ∈ K) : H.length ∣ K.length :=
  coset_div hH hK K.length K (Nat.le_refl _) hK.nodup (fun _ h => h) (fun g hg a ha => hK.join a (hs a ha) g hg)

/-! All permutations of n places. -/

def allP (n : Nat) : List Pm := (lists n n).filter (fun p => decide p.Nodup)

theorem lists_lt (n : Nat) : ∀ (k : Nat) (l : List Nat), l ∈ lists n k → l.length = k ∧ ∀ x ∈ l, x < n
  | 0, l, h => by simp [lists] at h; subst h; simp
  | k + 1, l, h => by
    unfold lists at h
    obtain ⟨x, hx, hl⟩ := List.mem_flatMap.1 h
    obtain ⟨m, hm, rfl⟩ := List.mem_map.1 hl
    obtain ⟨h1, h2⟩ := lists_lt n k m hm
    refine ⟨by simp [h1], ?_⟩
    intro y hy
    rcases List.mem_cons.1 hy with rfl | hy
    · exact List.mem_range.1 hx
    · exact h2 y hy

theorem allP_mem {n : Nat} (p : Pm) : p ∈ allP n ↔ IsP n p := by
  unfold allP
  rw [List.mem_filter]
  constructor
  · rintro ⟨h1, h2⟩
    obtain ⟨h3, h4⟩ := lists_lt n n p h1
    exact ⟨h3, h4, of_decide_eq_true h2⟩
  · intro h
    exact ⟨mem_lists n n p h.len h.lt, decide_eq_true h.nodup⟩

def fact : Nat → Nat
  | 0 => 1
  | n + 1 => (n + 1) * fact n

theorem allP_len {n : Nat} (h1 : 1 ≤ n) (h5 : n ≤ 5) : (allP n).length = fact n ∧ (allP n).Nodup := by
  have : n = 1 ∨ n = 2 ∨ n = 3 ∨ n = 4 ∨ n = 5 := by omega
  rcases this with rfl | rfl | rfl | rfl | rfl <;> decide +kernel

theorem grp_allP {n : Nat} (h1 : 1 ≤ n) (h5 : n ≤ 5) : GrpL n (allP n) :=
  ⟨(allP_len h1 h5).2, fun g hg => (allP_mem g).1 hg, (allP_mem _).2 (isP_id n), fun a ha b hb => (allP_mem _).2 (isP_join ((allP_mem a).1 ha) ((allP_mem b).1 hb)), fun a ha => (allP_mem _).2 (isP_turn ((allP_mem a).1 ha))⟩

theorem group_fact {n : Nat} {ms : List Pm} (h1 : 1 ≤ n) (h5 : n ≤ 5) (h : OkM n ms) : (groupL n ms).length ∣ fact n := by
  rw [← (allP_len h1 h5).1]
  exact lagrange (grp_groupL h5 h) (grp_allP h1 h5) (fun g hg => (allP_mem g).2 ((grp_groupL h5 h).isP g hg))

/-! Orbits. -/

def nextO (ms : List Pm) (x : Nat × Pm) : List (Nat × Pm) := ms.map (fun m => (ap m x.1, join x.2 m))
def orbitW (n : Nat) (ms : List Pm) (x : Nat) : List (Nat × Pm) := bfs (nextO ms) fuelW 0 [(x, idP n)]
def orbitL (n : Nat) (ms : List Pm) (x : Nat) : List Nat := (orbitW n ms x).map Prod.fst

theorem orbitW_facts {n : Nat} {ms : List Pm} (hn : n ≤ 5) (h : OkM n ms) {x : Nat} (hx : x < n) :
    (∀ z ∈ orbitW n ms x, z.1 < n ∧ Gen n ms z.2 ∧ ap z.2 x = z.1) ∧ (orbitL n ms x).Nodup ∧ Off (nextO ms) (orbitW n ms x).length (orbitW n ms x) := by
  refine bfs_all (nextO ms) (fun z => z.1 < n ∧ Gen n ms z.2 ∧ ap z.2 x = z.1) (List.range n) ?_ ?_ fuelW 0 [(x, idP n)] ?_ ?_ ?_ ?_ ?_
  · rintro ⟨y, t⟩ ⟨hy, _⟩
    exact List.mem_range.2 hy
  · rintro ⟨y, t⟩ ⟨hy, ht, he⟩ z hz
    obtain ⟨m, hm, rfl⟩ := List.mem_map.1 hz
    refine ⟨ap_lt (h m hm) hy, ht.step hm, ?_⟩
    show ap (join t m) x = ap m y
    rw [ap_join _ (ht.isP h) hx]
    dsimp only at he
    rw [he]
  · intro z hz
    rw [List.mem_singleton.1 hz]
    exact ⟨hx, Gen.one, ap_id hx⟩
  · simp
  · intro i hi; omega
  · simp
  · rw [List.length_range]; unfold fuelW; omega

theorem orbitW_start (n : Nat) (ms : List Pm) (x : Nat) : (x, idP n) ∈ orbitW n ms x := (bfs_pre _ _ _ _).subset (by simp)

theorem orbitL_mem {n : Nat} {ms : List Pm} (hn : n ≤ 5) (h : OkM n ms) {x : Nat} (hx : x < n) (y : Nat) : y ∈ orbitL n ms x ↔ ∃ p, Gen n ms p ∧ ap p x = y := by
  obtain ⟨h1, _, h3⟩ := orbitW_facts hn h hx
  constructor
  · intro hp
    obtain ⟨z, hz, rfl⟩ := List.mem_map.1 hp
    exact ⟨z.2, (h1 z hz).2.1, (h1 z hz).2.2⟩
  · rintro ⟨p, hp, rfl⟩
    induction hp with
    | one => rw [ap_id hx]; exact List.mem_map.2 ⟨_, orbitW_start n ms x, rfl⟩
    | @step p m hp hm ih =>
      obtain ⟨z, hz, e⟩ := List.mem_map.1 ih
      obtain ⟨i, hi⟩ := List.getElem?_of_mem hz
      have := h3 i (List.getElem?_eq_some_iff.1 hi).1 z hi (ap m z.1, Grp.join z.2 m) (List.mem_map.2 ⟨m, hm, rfl⟩)
      rw [ap_join _ (hp.isP h) hx, ← e]
      exact this

/-- What brings the first place to a place. -/
def tagO (R : List (Nat × Pm)) (y : Nat) : Pm := match R.find? (fun z => z.1 == y) with
  | some z => z.2
  | none => []

theorem tagO_mem : ∀ {R : List (Nat × Pm)} {y : Nat}, y ∈ R.map Prod.fst → (y, tagO R y) ∈ R := by
  intro R y hy
  obtain ⟨z, hz, rfl⟩ := List.mem_map.1 hy
  unfold tagO
  cases e : R.find? (fun w => w.1 == z.1) with
  | none =>
    have := List.find?_eq_none.1 e z hz
    simp at this
  | some w =>
    have h1 := List.find?_some e
    have h2 := List.mem_of_find?_eq_some e
    simp only [beq_iff_eq] at h1
    dsimp only
    rw [← h1]; exact h2

theorem nodup_key {κ τ : Type} : ∀ {R : List (κ × τ)} {y : κ} {s t : τ}, (R.map Prod.fst).Nodup → (y, s) ∈ R → (y, t) ∈ R → s = t
  | [], _, _, _, _, h, _ => by simp at h
  | z :: R, y, s, t, hN, h1, h2 => by
    rw [List.map_cons] at hN
    obtain ⟨hn, hN⟩ := List.nodup_cons.1 hN
    rcases List.mem_cons.1 h1 with e1 | h1 <;> rcases List.mem_cons.1 h2 with e2 | h2
    · rw [← e1] at e2; injection e2 with _ e2; exact e2.symm
    · exact absurd (List.mem_map.2 ⟨_, h2, by rw [← e1]⟩) hn
    · exact absurd (List.mem_map.2 ⟨_, h1, by rw [← e2]⟩) hn
    · exact nodup_key hN h1 h2

def tagX (n : Nat) (ms : List Pm) (x y : Nat) : Pm := tagO (orbitW n ms x) y

theorem tagX_facts {n : Nat} {ms : List Pm} (hn : n ≤ 5) (h : OkM n ms) {x y : Nat} (hx : x < n) (hy : y ∈ orbitL n ms x) : Gen n ms (tagX n ms x y) ∧ ap (tagX n ms x y) x = y ∧ IsP n (tagX n ms x y) := by
  have := (orbitW_facts hn h hx).1 _ (tagO_mem hy)
  exact ⟨this.2.1, this.2.2, this.2.1.isP h⟩

theorem tagX_self {n : Nat} {ms : List Pm} (hn : n ≤ 5) (h : OkM n ms) {x : Nat} (hx : x < n) : tagX n ms x x = idP n :=
  nodup_key (orbitW_facts hn h hx).2.1 (tagO_mem (List.mem_map.2 ⟨_, orbitW_start n ms x, rfl⟩)) (orbitW_start n ms x)

theorem tag_of {n : Nat} {ms : List Pm} (hn : n ≤ 5) (h : OkM n ms) {x : Nat} (hx : x < n) {z : Nat × Pm} (hz : z ∈ orbitW n ms x) : tagX n ms x z.1 = z.2 :=
  nodup_key (orbitW_facts hn h hx).2.1 (tagO_mem (List.mem_map.2 ⟨_, hz, rfl⟩)) hz

/-! Those that leave a place. -/

def roundX (R : List (Nat × Pm)) (z : Nat × Pm) (m : Pm) : Pm := join (join z.2 m) (turn (tagO R (ap m z.1)))
def rounds (n : Nat) (ms : List Pm) (x : Nat) : List Pm := (orbitW n ms x).flatMap (fun z => ms.map (roundX (orbitW n ms x) z))
def addL (n : Nat) (L : List Pm) (p : Pm) : List Pm := if p = idP n ∨ p ∈ L then L else L ++ [p]
def leave (n : Nat) (ms : List Pm) (x : Nat) : List Pm := (rounds n ms x).foldl (addL n) []

theorem addL_mem (n : Nat) (L : List Pm) (q p : Pm) : p ∈ addL n L q ↔ p ∈ L ∨ (p = q ∧ q ≠ idP n) := by
  unfold addL
  split
  · rename_i h
    constructor
    · exact .inl
    · rintro (h1 | ⟨rfl, h2⟩)
      · exact h1
      · rcases h with h | h
        · exact absurd h h2
        · exact h
  · rename_i h
    rw [List.mem_append, List.mem_singleton]
    constructor
    · rintro (h1 | h1)
      · exact .inl h1
      · exact .inr ⟨h1, fun e => h (.inl e)⟩
    · rintro (h1 | ⟨h1, _⟩)
      · exact .inl h1
      · exact .inr h1

theorem foldL_mem (n : Nat) : ∀ (qs L : List Pm) (p : Pm), p ∈ qs.foldl (addL n) L ↔ p ∈ L ∨ (p ∈ qs ∧ p ≠ idP n)
  | [], L, p => by simp
  | q :: qs, L, p => by
    rw [List.foldl_cons, foldL_mem n qs _ p, addL_mem]
    constructor
    · rintro ((h | ⟨rfl, h⟩) | ⟨h1, h2⟩)
      · exact .inl h
      · exact .inr ⟨by simp, h⟩
      · exact .inr ⟨by simp [h1], h2⟩
    · rintro (h | ⟨h1, h2⟩)
      · exact .inl (.inl h)
      · rcases List.mem_cons.1 h1 with rfl | h1
        · exact .inl (.inr ⟨rfl, h2⟩)
        · exact .inr ⟨h1, h2⟩

theorem leave_mem {n : Nat} {ms : List Pm} {x : Nat} (p : Pm) : p ∈ leave n ms x ↔ p ∈ rounds n ms x ∧ p ≠ idP n := by
  unfold leave; rw [foldL_mem]; simp

theorem rounds_mem {n : Nat} {ms : List Pm} {x : Nat} (p : Pm) : p ∈ rounds n ms x ↔ ∃ z ∈ orbitW n ms x, ∃ m ∈ ms, roundX (orbitW n ms x) z m = p := by
  unfold rounds; rw [List.mem_flatMap]
  constructor
  · rintro ⟨z, hz, h⟩
    obtain ⟨m, hm, e⟩ := List.mem_map.1 h
    exact ⟨z, hz, m, hm, e⟩
  · rintro ⟨z, hz, m, hm, e⟩
    exact ⟨z, hz, List.mem_map.2 ⟨m, hm, e⟩⟩

theorem orbit_next {n : Nat} {ms : List Pm} (hn : n ≤ 5) (h : OkM n ms) {x : Nat} (hx : x < n) {z : Nat × Pm} (hz : z ∈ orbitW n ms x) {m : Pm} (hm : m ∈ ms) : ap m z.1 ∈ orbitL n ms x := by
  obtain ⟨h1, h2, h3⟩ := (orbitW_facts hn h hx).1 z hz
  exact (orbitL_mem hn h hx _).2 ⟨_, h2.step hm, by rw [ap_join _ (h2.isP h) hx, h3]⟩

theorem round_facts {n : Nat} {ms : List Pm} (hn : n ≤ 5) (h : OkM n ms) {x : Nat} (hx : x < n) {p : Pm} (hp : p ∈ rounds n ms x) : Gen n ms p ∧ ap p x = x := by
  obtain ⟨z, hz, m, hm, rfl⟩ := (rounds_mem p).1 hp
  obtain ⟨h1, h2, h3⟩ := (orbitW_facts hn h hx).1 z hz
  obtain ⟨t1, t2, t3⟩ := tagX_facts hn h hx (orbit_next hn h hx hz hm)
  have ha := h2.step hm
  refine ⟨ha.join h (t1.turn hn h), ?_⟩
  show ap (join (join z.2 m) (turn (tagX n ms x (ap m z.1)))) x = x
  have e : ap (join z.2 m) x = ap (tagX n ms x (ap m z.1)) x := by rw [ap_join _ (h2.isP h) hx, h3, t2]
  rw [ap_join _ (ha.isP h) hx, e, ap_turn_ap t3 hx]

theorem leave_ok {n : Nat} {ms : List Pm} (hn : n ≤ 5) (h : OkM n ms) {x : Nat} (hx : x < n) : OkM n (leave n ms x) :=
  fun p hp => (round_facts hn h hx ((leave_mem p).1 hp).1).1.isP h

/-- Schreier: along the orbit there, on, and back: these make all that leave the place. -/
theorem schreier {n : Nat} {ms : List Pm} (hn : n ≤ 5) (h : OkM n ms) {x : Nat} (hx : x < n) (p : Pm) : Gen n (leave n ms x) p ↔ Gen n ms p ∧ ap p x = x := by
  have hk := leave_ok hn h hx
  constructor
  · intro hp
    refine ⟨hp.mono h (fun m hm => (round_facts hn h hx ((leave_mem m).1 hm).1).1), ?_⟩
    induction hp with
    | one => exact ap_id hx
    | @step p m hp hm ih => rw [ap_join _ (hp.isP hk) hx, ih]; exact (round_facts hn h hx ((leave_mem m).1 hm).1).2
  · rintro ⟨hp, he⟩
    have key : ∀ p, Gen n ms p → Gen n (leave n ms x) (join p (turn (tagX n ms x (ap p x)))) := by
      intro p hp
      induction hp with
      | one =>
        rw [ap_id hx, tagX_self hn h hx, join_turn (isP_id n)]
        exact Gen.one
      | @step p m hp hm ih =>
        have hy : ap p x ∈ orbitL n ms x := (orbitL_mem hn h hx _).2 ⟨p, hp, rfl⟩
        obtain ⟨t1, t2, t3⟩ := tagX_facts hn h hx hy
        have hz := tagO_mem hy
        have hy2 := orbit_next hn h hx hz hm
        obtain ⟨s1, s2, s3⟩ := tagX_facts hn h hx hy2
        have hr : join (join (tagX n ms x (ap p x)) m) (turn (tagX n ms x (ap m (ap p x)))) ∈ rounds n ms x := (rounds_mem _).2 ⟨_, hz, m, hm, rfl⟩
        have hg : Gen n (leave n ms x) (join (join (tagX n ms x (ap p x)) m) (turn (tagX n ms x (ap m (ap p x))))) := by
          by_cases e : join (join (tagX n ms x (ap p x)) m) (turn (tagX n ms x (ap m (ap p x)))) = idP n
          · rw [e]; exact Gen.one
          · exact Gen.gen hk ((leave_mem _).2 ⟨hr, e⟩)
        have := ih.join hk hg
        rw [ap_join _ (hp.isP h) hx]
        have hpP := hp.isP h; have hmP := h m hm
        have e : join (join p (turn (tagX n ms x (ap p x)))) (join (join (tagX n ms x (ap p x)) m) (turn (tagX n ms x (ap m (ap p x))))) = join (join p m) (turn (tagX n ms x (ap m (ap p x)))) := by
          rw [← join_assoc (isP_join hpP (isP_turn t3)) (isP_join t3 hmP) (isP_turn s3), ← join_assoc (isP_join hpP (isP_turn t3)) t3 hmP, join_assoc hpP (isP_turn t3) t3, turn_join t3, join_id hpP]
        rw [e] at this
        exact this
    have := key p hp
    rw [he, tagX_self hn h hx] at this
    have hid : turn (idP n) = idP n := (turn_of (isP_id n) (isP_id n) (join_id (isP_id n))).symm
    rwa [hid, join_id (hp.isP h)] at this

theorem leave_len {n : Nat} {ms : List Pm} (hn : n ≤ 5) (h : OkM n ms) {x : Nat} (hx : x < n) : (groupL n (leave n ms x)).length = (stab (groupL n ms) x).length := by
  have hk := leave_ok hn h hx
  refine len_same (grp_groupL hn hk).nodup ((grp_groupL hn h).nodup.filter _) (fun p => ?_)
  rw [groupL_mem hn hk, schreier hn h hx]
  unfold stab
  rw [List.mem_filter, groupL_mem hn h, decide_eq_true_iff]

theorem orbit_group {n : Nat} {ms : List Pm} (hn : n ≤ 5) (h : OkM n ms) {x : Nat} (hx : x < n) : (groupL n ms).length = (orbitL n ms x).length * (groupL n (leave n ms x)).length := by
  rw [leave_len hn h hx]
  refine orbit_stab (grp_groupL hn h) hx (orbitW_facts hn h hx).2.1 (fun y => ?_)
  rw [orbitL_mem hn h hx]
  constructor
  · rintro ⟨p, hp, e⟩; exact ⟨p, (groupL_mem hn h p).2 hp, e⟩
  · rintro ⟨p, hp, e⟩; exact ⟨p, (groupL_mem hn h p).1 hp, e⟩

/-- The product of orbits. -/
def sizeFrom (n : Nat) : List Pm → List Nat → Nat
  | _, [] => 1
  | ms, x :: xs => (orbitW n ms x).length * sizeFrom n (leave n ms x) xs

theorem group_one {n : Nat} {ms : List Pm} (hn : n ≤ 5) (h : OkM n ms) (hid : ∀ p, Gen n ms p → p = idP n) : (groupL n ms).length = 1 := by
  have : (groupL n ms).length = [idP n].length := len_same (grp_groupL hn h).nodup (by simp) (fun p => by
    rw [groupL_mem hn h, List.mem_singleton]
    exact ⟨hid p, fun e => e ▸ Gen.one⟩)
  exact this

theorem sizeFrom_eq {n : Nat} (hn : n ≤ 5) : ∀ (xs : List Nat) (ms : List Pm), OkM n ms → (∀ x ∈ xs, x < n) → (∀ p, Gen n ms p → (∀ x ∈ xs, ap p x = x) → p = idP n) → sizeFrom n ms xs = (groupL n ms).length
  | [], ms, h, _, hid => (group_one hn h (fun p hp => hid p hp (by simp))).symm
  | x :: xs, ms, h, hx, hid => by
    have hxn := hx x (by simp)
    unfold sizeFrom
    rw [sizeFrom_eq hn xs (leave n ms x) (leave_ok hn h hxn) (fun y hy => hx y (by simp [hy])) (fun p hp hf => by
      obtain ⟨hp, he⟩ := (schreier hn h hxn p).1 hp
      refine hid p hp (fun y hy => ?_)
      rcases List.mem_cons.1 hy with rfl | hy
      · exact he
      · exact hf y hy), orbit_group hn h hxn]
    unfold orbitL
    rw [List.length_map]

def size (n : Nat) (ms : List Pm) : Nat := sizeFrom n ms (List.range n)

theorem size_eq {n : Nat} {ms : List Pm} (hn : n ≤ 5) (h : OkM n ms) : size n ms = (groupL n ms).length :=
  sizeFrom_eq hn _ _ h (fun x hx => List.mem_range.1 hx) (fun p hp hf => pm_ext (hp.isP h).len (isP_id n).len (fun x hx => by rw [hf x (List.mem_range.2 hx), ap_id hx]))

/-- Is p made, told place by place? -/
def hasFrom (n : Nat) : List Pm → Pm → List Nat → Bool
  | _, _, [] => true
  | ms, p, x :: xs => if ap p x ∈ orbitL n ms x then hasFrom n (leave n ms x) (join p (turn (tagX n ms x (ap p x)))) xs else false

theorem hasFrom_iff {n : Nat} (hn : n ≤ 5) : ∀ (xs : List Nat) (ms : List Pm) (p : Pm), OkM n ms → IsP n p → (∀ x ∈ xs, x < n) → (∀ y, y < n → y ∉ xs → ap p y = y) → (∀ q, Gen n ms q → ∀ y, y < n → y ∉ xs → ap q y = y) → (hasFrom n ms p xs = true ↔ Gen n ms p)
  | [], ms, p, h, hp, _, hf, _ => by
    have : p = idP n := pm_ext hp.len (isP_id n).len (fun x hx => by rw [hf x hx (by simp), ap_id hx])
    subst this
    exact ⟨fun _ => Gen.one, fun _ => rfl⟩
  | x :: xs, ms, p, h, hp, hx, hf, hg => by
    have hxn := hx x (by simp)
    unfold hasFrom
    by_cases hm : ap p x ∈ orbitL n ms x
    · rw [if_pos hm]
      obtain ⟨t1, t2, t3⟩ := tagX_facts hn h hxn hm
      have hT := isP_turn t3
      have hfx : ap (join p (turn (tagX n ms x (ap p x)))) x = x := by
        rw [ap_join _ hp hxn]
        have e : ap p x = ap (tagX n ms x (ap p x)) x := t2.symm
        rw [show ap (turn (tagX n ms x (ap p x))) (ap p x) = ap (turn (tagX n ms x (ap p x))) (ap (tagX n ms x (ap p x)) x) by rw [← e], ap_turn_ap t3 hxn]
      rw [hasFrom_iff hn xs (leave n ms x) _ (leave_ok hn h hxn) (isP_join hp hT) (fun y hy => hx y (by simp [hy])) (fun y hy hn' => by
        by_cases e : y = x
        · subst e; exact hfx
        · have hyn : y ∉ x :: xs := by simp [e, hn']
          rw [ap_join _ hp hy, hf y hy hyn]
          have := hg _ t1 y hy hyn
          have h2 := ap_turn_ap t3 hy
          rwa [this] at h2) (fun q hq y hy hn' => by
        obtain ⟨hq, he⟩ := (schreier hn h hxn q).1 hq
        by_cases e : y = x
        · subst e; exact he
        · exact hg q hq y hy (by simp [e, hn'])), schreier hn h hxn]
      constructor
      · rintro ⟨hp2, _⟩
        have := hp2.join h t1
        rwa [join_assoc hp hT t3, turn_join t3, join_id hp] at this
      · intro hp2
        exact ⟨hp2.join h (t1.turn hn h), hfx⟩
    · rw [if_neg hm]
      constructor
      · intro e; cases e
      · intro hp2
        exact absurd ((orbitL_mem hn h hxn _).2 ⟨p, hp2, rfl⟩) hm

def has (n : Nat) (ms : List Pm) (p : Pm) : Bool := hasFrom n ms p (List.range n)

theorem has_iff {n : Nat} {ms : List Pm} {p : Pm} (hn : n ≤ 5) (h : OkM n ms) (hp : IsP n p) : has n ms p = true ↔ Gen n ms p :=
  hasFrom_iff hn _ _ _ h hp (fun x hx => List.mem_range.1 hx) (fun y hy hn' => absurd (List.mem_range.2 hy) hn') (fun _ _ y hy hn' => absurd (List.mem_range.2 hy) hn')
end Go.Proofs.Ytmmggbcmailbiaa.Grp
