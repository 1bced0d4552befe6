/- Orbits, and the number of fixed places: plain laws. -/
import Derived.Test.YtmmggbcmailbiaaGP
namespace Go.Proofs.Ytmmggbcmailbiaa.Grp

theorem orb_refl {n : Nat} {ms : List Pm} (x : Nat) : x ∈ orbitL n ms x := List.mem_map.2 ⟨_, orbitW_start n ms x, rfl⟩

theorem orb_trans {n : Nat} {ms : List Pm} (h5 : n ≤ 5) (hm : OkM n ms) {x y z : Nat} (hx : x < n) (hy : y < n) (h1 : y ∈ orbitL n ms x) (h2 : z ∈ orbitL n ms y) : z ∈ orbitL n ms x := by
  obtain ⟨p, hp, rfl⟩ := (orbitL_mem h5 hm hx _).1 h1
  obtain ⟨q, hq, rfl⟩ := (orbitL_mem h5 hm hy _).1 h2
  exact (orbitL_mem h5 hm hx _).2 ⟨_, hp.join hm hq, by rw [ap_join _ (hp.isP hm) hx]⟩

theorem orb_lt {n : Nat} {ms : List Pm} (h5 : n ≤ 5) (hm : OkM n ms) {x y : Nat} (hx : x < n) (h1 : y ∈ orbitL n ms x) : y < n := by
  obtain ⟨z, hz, rfl⟩ := List.mem_map.1 h1
  exact ((orbitW_facts h5 hm hx).1 z hz).1

theorem orb_symm {n : Nat} {ms : List Pm} (h5 : n ≤ 5) (hm : OkM n ms) {x y : Nat} (hx : x < n) (h1 : y ∈ orbitL n ms x) : x ∈ orbitL n ms y := by
  have hy := orb_lt h5 hm hx h1
  obtain ⟨p, hp, rfl⟩ := (orbitL_mem h5 hm hx _).1 h1
  exact (orbitL_mem h5 hm hy _).2 ⟨_, hp.turn h5 hm, ap_turn_ap (hp.isP hm) hx⟩

theorem orb_iff {n : Nat} {ms : List Pm} (h5 : n ≤ 5) (hm : OkM n ms) {x y : Nat} (hx : x < n) (h1 : y ∈ orbitL n ms x) (z : Nat) : z ∈ orbitL n ms y ↔ z ∈ orbitL n ms x :=
  ⟨fun h => orb_trans h5 hm hx (orb_lt h5 hm hx h1) h1 h, fun h => orb_trans h5 hm (orb_lt h5 hm hx h1) hx (orb_symm h5 hm hx h1) h⟩

/-- The orbit, ascending. -/
def orbAsc (n : Nat) (ms : List Pm) (x : Nat) : List Nat := (List.range n).filter (fun y => decide (y ∈ orbitL n ms x))

theorem orbAsc_mem {n : Nat} {ms : List Pm} (h5 : n ≤ 5) (hm : OkM n ms) {x : Nat} (hx : x < n) (y : Nat) : y ∈ orbAsc n ms x ↔ y ∈ orbitL n ms x := by
  unfold orbAsc
  rw [List.mem_filter, List.mem_range, decide_eq_true_iff]
  exact ⟨fun h => h.2, fun h => ⟨orb_lt h5 hm hx h, h⟩⟩

theorem orbAsc_len {n : Nat} {ms : List Pm} (h5 : n ≤ 5) (hm : OkM n ms) {x : Nat} (hx : x < n) : (orbAsc n ms x).length = (orbitW n ms x).length := by
  have := len_same (l := orbAsc n ms x) (m := orbitL n ms x) (List.nodup_range.filter _) (orbitW_facts h5 hm hx).2.1 (orbAsc_mem h5 hm hx)
  rw [this]; unfold orbitL; rw [List.length_map]

theorem orbAsc_same {n : Nat} {ms : List Pm} (h5 : n ≤ 5) (hm : OkM n ms) {x y : Nat} (hx : x < n) (h1 : y ∈ orbitL n ms x) : orbAsc n ms y = orbAsc n ms x := by
  unfold orbAsc
  apply List.filter_congr
  intro z _
  rw [decide_eq_decide]
  exact orb_iff h5 hm hx h1 z

/-- No smaller place is in the orbit. -/
def least (n : Nat) (ms : List Pm) (k : Nat) : Bool := (List.range k).all (fun i => decide (k ∉ orbitL n ms i))
theorem least_iff {n : Nat} {ms : List Pm} {k : Nat} : least n ms k = true ↔ ∀ i, i < k → k ∉ orbitL n ms i := by
  unfold least; rw [List.all_eq_true]
  constructor
  · intro h i hi; exact of_decide_eq_true (h i (List.mem_range.2 hi))
  · intro h i hi; exact decide_eq_true (h i (List.mem_range.1 hi))

def reps (n : Nat) (ms : List Pm) : List Nat := (List.range n).filter (least n ms)
def manyTo (n : Nat) (ms : List Pm) (k : Nat) : Nat := ((List.range k).filter (least n ms)).length
theorem manyTo_succ (n : Nat) (ms : List Pm) (k : Nat) : manyTo n ms (k + 1) = manyTo n ms k + if least n ms k then 1 else 0 := by
  unfold manyTo
  rw [List.range_succ, List.filter_append, List.length_append]
  cases h : least n ms k <;> simp [h]

/-- The first one of the orbit. -/
def rep (n : Nat) (ms : List Pm) (x : Nat) : Nat := (orbAsc n ms x).headD 0

theorem head_filter {P : Nat → Bool} : ∀ (l : List Nat) (y : Nat), (l.filter P).head? = some y → l.Pairwise (· < ·) → P y = true ∧ y ∈ l ∧ ∀ z ∈ l, P z = true → y ≤ z
  | [], y, h, _ => by simp at h
  | a :: l, y, h, hp => by
    obtain ⟨hp1, hp2⟩ := List.pairwise_cons.1 hp
    rw [List.filter_cons] at h
    by_cases ha : P a = true
    · rw [if_pos ha] at h
      simp at h
      subst h
      refine ⟨ha, by simp, fun z hz _ => ?_⟩
      rcases List.mem_cons.1 hz with rfl | hz
      · exact Nat.le_refl _
      · exact Nat.le_of_lt (hp1 z hz)
    · rw [if_neg ha] at h
      obtain ⟨h1, h2, h3⟩ := head_filter l y h hp2
      refine ⟨h1, by simp [h2], fun z hz hz' => ?_⟩
      rcases List.mem_cons.1 hz with rfl | hz
      · exact absurd hz' ha
      · exact h3 z hz hz'

theorem rep_facts {n : Nat} {ms : List Pm} (h5 : n ≤ 5) (hm : OkM n ms) {x : Nat} (hx : x < n) : rep n ms x ∈ orbitL n ms x ∧ (∀ z ∈ orbitL n ms x, rep n ms x ≤ z) ∧ (orbAsc n ms x).head? = some (rep n ms x) := by
  have hmem : x ∈ orbAsc n ms x := (orbAsc_mem h5 hm hx x).2 (orb_refl x)
  obtain ⟨y, hy⟩ : ∃ y, (orbAsc n ms x).head? = some y := by
    cases e : orbAsc n ms x with
    | nil => rw [e] at hmem; simp at hmem
    | cons a l => exact ⟨a, rfl⟩
  have hr : rep n ms x = y := by
    unfold rep; rw [List.headD_eq_head?_getD, hy]; rfl
  obtain ⟨h1, h2, h3⟩ := head_filter (List.range n) y hy List.pairwise_lt_range
  rw [hr]
  exact ⟨of_decide_eq_true h1, fun z hz => h3 z (List.mem_range.2 (orb_lt h5 hm hx hz)) (decide_eq_true hz), hy⟩

theorem least_rep {n : Nat} {ms : List Pm} (h5 : n ≤ 5) (hm : OkM n ms) {k : Nat} (hk : k < n) : least n ms k = true ↔ rep n ms k = k := by
  obtain ⟨h1, h2, _⟩ := rep_facts h5 hm hk
  rw [least_iff]
  constructor
  · intro h
    have h3 := h2 k (orb_refl k)
    rcases Nat.lt_or_ge (rep n ms k) k with h4 | h4
    · exact absurd (orb_symm h5 hm hk h1) (h _ h4)
    · omega
  · intro h i hi hmem
    have hi' : i < n := by omega
    have := h2 i (orb_symm h5 hm hi' hmem)
    omega

theorem rep_same {n : Nat} {ms : List Pm} (h5 : n ≤ 5) (hm : OkM n ms) {x y : Nat} (hx : x < n) (h1 : y ∈ orbitL n ms x) : rep n ms y = rep n ms x := by
  unfold rep; rw [orbAsc_same h5 hm hx h1]

theorem reps_mem {n : Nat} {ms : List Pm} (h5 : n ≤ 5) (hm : OkM n ms) {x : Nat} (hx : x < n) : rep n ms x ∈ reps n ms := by
  obtain ⟨h1, h2, _⟩ := rep_facts h5 hm hx
  have hr := orb_lt h5 hm hx h1
  unfold reps
  rw [List.mem_filter, List.mem_range]
  exact ⟨hr, (least_rep h5 hm hr).2 (rep_same h5 hm hx h1)⟩

/-- The places whose first one is r are r's orbit. -/
theorem rep_fibre {n : Nat} {ms : List Pm} (h5 : n ≤ 5) (hm : OkM n ms) {r : Nat} (hr : r ∈ reps n ms) : (List.range n).filter (fun x => decide (rep n ms x = r)) = orbAsc n ms r := by
  unfold reps at hr
  rw [List.mem_filter, List.mem_range] at hr
  obtain ⟨hrn, hl⟩ := hr
  have hrr := (least_rep h5 hm hrn).1 hl
  unfold orbAsc
  apply List.filter_congr
  intro x hx
  have hx := List.mem_range.1 hx
  rw [decide_eq_decide]
  constructor
  · intro e
    have := (rep_facts h5 hm hx).1
    rw [e] at this
    exact orb_symm h5 hm hx this
  · intro h; rw [rep_same h5 hm hrn h, hrr]

theorem orbits_sum {n : Nat} {ms : List Pm} (h5 : n ≤ 5) (hm : OkM n ms) : sumOn (reps n ms) (fun r => (orbAsc n ms r).length) = n := by
  have := sum_fibres (rep n ms) (fun _ => 1) (reps n ms) (List.range n) (List.nodup_range.filter _) (fun x hx => reps_mem h5 hm (List.mem_range.1 hx))
  rw [sumOn_one, List.length_range] at this
  refine Eq.trans ?_ this.symm
  refine sumOn_congr _ _ _ (fun r hr => ?_)
  rw [sumOn_one, rep_fibre h5 hm hr]

/-- How many places a permutation leaves. -/
def fixes (n : Nat) (p : Pm) : Nat := ((List.range n).filter (fun x => decide (ap p x = x))).length
def fixedSum (n : Nat) (G : List Pm) : Nat := sumOn G (fixes n)

theorem stab_mul {n : Nat} {ms : List Pm} (h5 : n ≤ 5) (hm : OkM n ms) {x : Nat} (hx : x < n) : (orbAsc n ms x).length * (stab (groupL n ms) x).length = (groupL n ms).length := by
  rw [orbit_group h5 hm hx, leave_len h5 hm hx, orbAsc_len h5 hm hx]
  unfold orbitL; rw [List.length_map]

theorem burnside {n : Nat} {ms : List Pm} (h5 : n ≤ 5) (hm : OkM n ms) : fixedSum n (groupL n ms) = (reps n ms).length * (groupL n ms).length := by
  have e1 : fixedSum n (groupL n ms) = sumOn (List.range n) (fun x => (stab (groupL n ms) x).length) := by
    unfold fixedSum fixes stab
    rw [sumOn_congr _ _ (fun p => sumOn (List.range n) (fun x => if decide (ap p x = x) then 1 else 0)) (fun p _ => len_filter _ _), sumOn_swap]
    exact sumOn_congr _ _ _ (fun x _ => (len_filter _ _).symm)
  rw [e1, sum_fibres (rep n ms) _ (reps n ms) (List.range n) (List.nodup_range.filter _) (fun x hx => reps_mem h5 hm (List.mem_range.1 hx))]
  refine sumOn_const _ _ _ (fun r hr => ?_)
  rw [rep_fibre h5 hm hr]
  have hrn : r < n := by unfold reps at hr; rw [List.mem_filter, List.mem_range] at hr; exact hr.1
  rw [sumOn_const _ _ (stab (groupL n ms) r).length (fun x hx => ?_), stab_mul h5 hm hrn]
  have hxo := (orbAsc_mem h5 hm hrn x).1 hx
  have hxn := orb_lt h5 hm hrn hxo
  have a1 := stab_mul h5 hm hrn
  have a2 := stab_mul h5 hm hxn
  rw [orbAsc_same h5 hm hrn hxo] at a2
  have hpos : 0 < (orbAsc n ms r).length := List.length_pos_of_mem ((orbAsc_mem h5 hm hrn r).2 (orb_refl r))
  exact Nat.eq_of_mul_eq_mul_left hpos (a2.trans a1.symm)

theorem stab_same {n : Nat} {ms : List Pm} (h5 : n ≤ 5) (hm : OkM n ms) {x y : Nat} (hx : x < n) (h : y ∈ orbitL n ms x) : (stab (groupL n ms) y).length = (stab (groupL n ms) x).length := by
  have hyn := orb_lt h5 hm hx h
  have a1 := stab_mul h5 hm hx
  have a2 := stab_mul h5 hm hyn
  rw [orbAsc_same h5 hm hx h] at a2
  have hpos : 0 < (orbAsc n ms x).length := List.length_pos_of_mem ((orbAsc_mem h5 hm hx x).2 (orb_refl x))
  exact Nat.eq_of_mul_eq_mul_left hpos (a2.trans a1.symm)
end Go.Proofs.Ytmmggbcmailbiaa.Grp
