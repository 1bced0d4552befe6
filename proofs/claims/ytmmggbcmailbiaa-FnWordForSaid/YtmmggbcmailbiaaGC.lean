/- Words are shortest; a further generator; turning round: plain laws. -/
import Derived.Test.YtmmggbcmailbiaaGB
namespace Go.Proofs.Ytmmggbcmailbiaa.Grp

section
variable {κ τ : Type} [DecidableEq κ]

theorem bfs_inv (next : κ × τ → List (κ × τ)) (P : Nat → List (κ × τ) → Prop) (hP : ∀ k L x, P k L → L[k]? = some x → P (k + 1) (adds L (next x))) :
    ∀ (f k : Nat) (L : List (κ × τ)), P k L → ∃ k', P k' (bfs next f k L) ∧ ((bfs next f k L).length ≤ k' ∨ k' = k + f)
  | 0, k, L, h => ⟨k, h, .inr rfl⟩
  | f + 1, k, L, h => by
    unfold bfs
    cases e : L[k]? with
    | none => exact ⟨k, h, .inl (List.getElem?_eq_none_iff.1 e)⟩
    | some x =>
      obtain ⟨k', h1, h2⟩ := bfs_inv next P hP f (k + 1) _ (hP k L x h e)
      exact ⟨k', h1, h2.imp id (fun h => by omega)⟩

theorem adds_from {L xs : List (κ × τ)} : ∀ y ∈ adds L xs, y ∈ L ∨ y ∈ xs :=
  adds_inv (Inv := fun y => y ∈ L ∨ y ∈ xs) (fun y hy => .inl hy) (fun y hy => .inr hy)
end

/-- The words ascend by length. -/
def Asc (L : List (Pm × List Nat)) : Prop := L.Pairwise (fun x y => x.2.length ≤ y.2.length)

theorem adds_asc {b : Nat} : ∀ (xs L : List (Pm × List Nat)), Asc L → (∀ y ∈ L, y.2.length ≤ b) → (∀ y ∈ xs, y.2.length = b) → Asc (adds L xs)
  | [], L, h, _, _ => h
  | x :: xs, L, h, hb, hx => by
    refine adds_asc xs (addK L x) ?_ ?_ (fun y hy => hx y (List.mem_cons_of_mem _ hy))
    · unfold addK
      split
      · exact h
      · unfold Asc
        rw [List.pairwise_append]
        refine ⟨h, List.pairwise_singleton _ _, fun y hy z hz => ?_⟩
        rw [List.mem_singleton.1 hz, hx x (List.mem_cons_self ..)]
        exact hb y hy
    · exact addK_inv hb (Nat.le_of_eq (hx x (List.mem_cons_self ..)))

def Short (ms : List Pm) (k : Nat) (L : List (Pm × List Nat)) : Prop :=
  Asc L ∧ (∀ x, L[k]? = some x → ∀ y ∈ L, y.2.length ≤ x.2.length + 1) ∧ ∀ i, i < k → ∀ x, L[i]? = some x → ∀ z ∈ nextW ms x, ∃ y ∈ L, y.1 = z.1 ∧ y.2.length ≤ x.2.length + 1

theorem nextW_long {ms : List Pm} {x z : Pm × List Nat} (h : z ∈ nextW ms x) : z.2.length = x.2.length + 1 := by
  obtain ⟨m, _, rfl⟩ := List.mem_map.1 h
  simp

theorem short_step {ms : List Pm} (k : Nat) (L : List (Pm × List Nat)) (x : Pm × List Nat) (h : Short ms k L) (hx : L[k]? = some x) : Short ms (k + 1) (adds L (nextW ms x)) := by
  obtain ⟨h1, h2, h3⟩ := h
  have hkl : k < L.length := (List.getElem?_eq_some_iff.1 hx).1
  have hp := adds_pre (nextW ms x) L
  have hA : Asc (adds L (nextW ms x)) := adds_asc (b := x.2.length + 1) _ _ h1 (h2 x hx) (fun y hy => nextW_long hy)
  have hB : ∀ y ∈ adds L (nextW ms x), y.2.length ≤ x.2.length + 1 := adds_inv (Inv := fun y => y.2.length ≤ x.2.length + 1) (h2 x hx) (fun y hy => Nat.le_of_eq (nextW_long hy))
  have hxk : (adds L (nextW ms x))[k]? = some x := by rw [pre_get hp hkl]; exact hx
  refine ⟨hA, fun y hy z hz => ?_, fun i hi y hy z hz => ?_⟩
  · have h4 : x.2.length ≤ y.2.length := by
      obtain ⟨ha, ea⟩ := List.getElem?_eq_some_iff.1 hxk
      obtain ⟨hb, eb⟩ := List.getElem?_eq_some_iff.1 hy
      have := List.pairwise_iff_getElem.1 hA k (k + 1) ha hb (by omega)
      rw [ea, eb] at this
      exact this
    have := hB z hz
    omega
  · have hil : i < L.length := by omega
    rw [pre_get hp hil] at hy
    rcases Nat.lt_or_ge i k with h | h
    · obtain ⟨u, hu, e1, e2⟩ := h3 i h y hy z hz
      exact ⟨u, hp.subset hu, e1, e2⟩
    · have : i = k := by omega
      subst this
      rw [hx] at hy
      injection hy with hy
      subst hy
      obtain ⟨u, hu, e1⟩ := List.mem_map.1 (adds_mem (nextW ms x) L z hz)
      exact ⟨u, hu, e1, hB u hu⟩

theorem word_short {n : Nat} {ms : List Pm} (h5 : n ≤ 5) (hm : OkM n ms) {x : Pm × List Nat} (hx : x ∈ groupW n ms) {m : Pm} (hmm : m ∈ ms) : ∃ y ∈ groupW n ms, y.1 = join x.1 m ∧ y.2.length ≤ x.2.length + 1 := by
  obtain ⟨k', ⟨_, _, h3⟩, h4⟩ := bfs_inv (nextW ms) (Short ms) (short_step (ms := ms)) fuelW 0 [(idP n, [])] ⟨List.pairwise_singleton _ _, fun x hx y hy => by
    rw [List.mem_singleton.1 hy]; simp, fun i hi => by omega⟩
  have hle : (groupW n ms).length ≤ 3125 := by
    have h6 := (groupW_facts h5 hm).2.1
    have := len_le h6 (m := lists n n) (fun p hp => by
      have hP := ((groupL_mem h5 hm p).1 hp).isP hm
      exact mem_lists n n _ hP.len hP.lt)
    unfold groupL at this
    rw [List.length_map] at this
    exact Nat.le_trans this (lists_len n h5)
  obtain ⟨i, hi⟩ := List.getElem?_of_mem hx
  have hil : i < (groupW n ms).length := (List.getElem?_eq_some_iff.1 hi).1
  obtain ⟨j, hj⟩ := List.getElem?_of_mem hmm
  have hik : i < k' := by
    rcases h4 with h4 | h4
    · exact Nat.lt_of_lt_of_le hil h4
    · unfold fuelW at h4; omega
  exact h3 i hik x hi (join x.1 m, x.2 ++ [j]) (List.mem_map.2 ⟨(m, j), List.mem_zipIdx_iff_getElem?.2 hj, rfl⟩)

/-! A further generator. -/

theorem ok_more {n : Nat} {ms : List Pm} {p : Pm} (hm : OkM n ms) (hp : IsP n p) : OkM n (ms ++ [p]) := fun q hq => by
  rcases List.mem_append.1 hq with hq | hq
  · exact hm q hq
  · rw [List.mem_singleton.1 hq]; exact hp

theorem size_more {n : Nat} {ms : List Pm} {p : Pm} (h5 : n ≤ 5) (hm : OkM n ms) (hp : IsP n p) : size n (ms ++ [p]) = size n ms ↔ Gen n ms p := by
  have hk := ok_more hm hp
  rw [size_eq h5 hm, size_eq h5 hk]
  have hsub : ∀ q ∈ groupL n ms, q ∈ groupL n (ms ++ [p]) := fun q hq =>
    (groupL_mem h5 hk q).2 (Gen.mono hk (fun m hm' => Gen.gen hk (List.mem_append_left _ hm')) ((groupL_mem h5 hm q).1 hq))
  constructor
  · intro e
    have hpk : p ∈ groupL n (ms ++ [p]) := (groupL_mem h5 hk p).2 (Gen.gen hk (by simp))
    exact (groupL_mem h5 hm p).1 (mem_full (groupW_facts h5 hm).2.1 hsub (Nat.le_of_eq e) hpk)
  · intro hg
    refine len_same (groupW_facts h5 hk).2.1 (groupW_facts h5 hm).2.1 (fun q => ⟨fun hq => ?_, hsub q⟩)
    refine (groupL_mem h5 hm q).2 (Gen.mono hm (fun m hm' => ?_) ((groupL_mem h5 hk q).1 hq))
    rcases List.mem_append.1 hm' with h | h
    · exact Gen.gen hm h
    · rw [List.mem_singleton.1 h]; exact hg

/-! All places turned on by one. -/

def turnP (n : Nat) : Pm := (List.range n).map (fun k => (k + 1) % n)

theorem turnP_ok {n : Nat} (h1 : 1 ≤ n) (h5 : n ≤ 5) : IsP n (turnP n) := by
  have : n = 1 ∨ n = 2 ∨ n = 3 ∨ n = 4 ∨ n = 5 := by omega
  rcases this with rfl | rfl | rfl | rfl | rfl <;> exact ⟨rfl, by decide, by decide⟩

theorem turnP_ap {n k : Nat} (h : k + 1 < n) : ap (turnP n) k = k + 1 := by
  unfold ap turnP
  rw [List.getD_eq_getElem?_getD, List.getElem?_map, List.getElem?_range (by omega)]
  exact Nat.mod_eq_of_lt h

theorem turn_orbit {n : Nat} {ms : List Pm} (h5 : n ≤ 5) (hm : OkM n ms) (ht : turnP n ∈ ms) : ∀ k, k < n → k ∈ orbitL n ms 0
  | 0, _ => orb_refl 0
  | k + 1, hk => by
    have hk0 : k < n := by omega
    have h0 : 0 < n := by omega
    refine orb_trans h5 hm h0 hk0 (turn_orbit h5 hm ht k hk0) ?_
    exact (orbitL_mem h5 hm hk0 _).2 ⟨turnP n, Gen.gen hm ht, turnP_ap hk⟩

theorem turn_many {n : Nat} {ms : List Pm} (h1 : 1 ≤ n) (h5 : n ≤ 5) (hm : OkM n ms) (ht : turnP n ∈ ms) : manyTo n ms n = 1 := by
  have key : ∀ j, j + 1 ≤ n → manyTo n ms (j + 1) = 1 := by
    intro j
    induction j with
    | zero =>
      intro _
      rw [manyTo_succ]
      have : least n ms 0 = true := least_iff.2 (fun i hi => by omega)
      rw [this]; rfl
    | succ j ih =>
      intro hj
      rw [manyTo_succ, ih (by omega)]
      have : least n ms (j + 1) = false := by
        cases e : least n ms (j + 1) with
        | false => rfl
        | true => exact absurd (turn_orbit h5 hm ht (j + 1) (by omega)) (least_iff.1 e 0 (by omega))
      rw [this]; rfl
  obtain ⟨j, rfl⟩ : ∃ j, n = j + 1 := ⟨n - 1, by omega⟩
  exact key j (Nat.le_refl _)

/-! How many places the orbits have that are counted so far. -/

def orbTo (n : Nat) (ms : List Pm) (k : Nat) : Nat := sumOn ((List.range k).filter (least n ms)) (fun r => (orbAsc n ms r).length)

theorem orbAsc_le (n : Nat) (ms : List Pm) (x : Nat) : (orbAsc n ms x).length ≤ n := by
  unfold orbAsc
  have := List.length_filter_le (fun y => decide (y ∈ orbitL n ms x)) (List.range n)
  rwa [List.length_range] at this

theorem orbTo_succ (n : Nat) (ms : List Pm) (k : Nat) : orbTo n ms (k + 1) = orbTo n ms k + if least n ms k then (orbAsc n ms k).length else 0 := by
  unfold orbTo
  rw [List.range_succ, List.filter_append]
  cases h : least n ms k
  · simp [h]
  · simp only [List.filter_cons, h, List.filter_nil, if_true]
    unfold sumOn
    rw [List.map_append, List.sum_append]; simp

theorem orbTo_le (n : Nat) (ms : List Pm) : ∀ k, orbTo n ms k ≤ k * n
  | 0 => by simp [orbTo, sumOn]
  | k + 1 => by
    rw [orbTo_succ, Nat.succ_mul]
    have h1 := orbTo_le n ms k
    have h2 := orbAsc_le n ms k
    split <;> omega

theorem orbTo_all {n : Nat} {ms : List Pm} (h5 : n ≤ 5) (hm : OkM n ms) : orbTo n ms n = n := orbits_sum h5 hm
end Go.Proofs.Ytmmggbcmailbiaa.Grp
