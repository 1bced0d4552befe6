/- markIntS writes 1, 2, .. (from k on) into a slice of the call's own, heldIntS looks whether they are there. -/
import Derived.Test.YtmmggbcmailbiaaRows
import Derived.Test.YtmmggbcmailbiaaOwn
import Derived.Test.YtmmggbcmailbiaaInts
import Derived.Outline
namespace Go.Proofs.Ytmmggbcmailbiaa
open Go.RowKit

def marks : Int → Nat → List Int
  | _, 0 => []
  | k, n + 1 => k :: marks (k + 1) n

theorem marks_length : ∀ (k : Int) (n : Nat), (marks k n).length = n
  | _, 0 => rfl
  | k, n + 1 => by simp [marks, marks_length]

theorem marks_getD : ∀ (k : Int) (n j : Nat), j < n → (marks k n).getD j 0 = k + j
  | _, 0, j, h => by omega
  | k, n + 1, 0, _ => by simp [marks]
  | k, n + 1, j + 1, h => by
    have := marks_getD (k + 1) n j (by omega)
    simp only [marks, List.getD_cons_succ, this]
    omega

theorem marks_mem {k : Int} {n : Nat} {z : Int} (h : z ∈ marks k n) : k ≤ z ∧ z < k + n := by
  obtain ⟨j, hj, rfl⟩ := List.mem_iff_getElem.1 h
  rw [marks_length] at hj
  have := marks_getD k n j hj
  have e : (marks k n)[j] = (marks k n).getD j 0 := by simp [List.getD, marks_length, hj]
  rw [e, this]; omega

theorem own_of_row {w : World} {b : Nat} {t : TypeId} {n : Nat} {f : Nat → Value} {xs : List Value} (h : w.rowIs b t n f) (hl : xs.length = n) (hx : ∀ j, j < n → xs[j]? = some (f j)) (hm : n ≤ maxLen) :
    w.ownsRow b t 1 (.slice (some ⟨b, 0, none⟩) n n) n xs := by
  obtain ⟨c, hb, hn, hc⟩ := h
  refine ⟨by omega, .inr ⟨b, n, c, rfl, Nat.le_refl _, hb, Nat.le_refl _, hm, by omega, ?_⟩⟩
  refine List.ext_getElem? fun j => ?_
  by_cases hj : j < n
  · rw [List.getElem?_take, if_pos (by omega), hx j hj, ← hc j hj]; simp
  · rw [List.getElem?_eq_none (by simp; omega), List.getElem?_eq_none (by omega)]

set_option maxHeartbeats 400000 in
theorem markIntS_any (n : Nat) (xs : List Value) (base : Nat) (v : Value) (k : Nat) (w : World) (h : w.ownsRow base 3 1 v n xs) (hn : n ≤ 100000000) (hk : k ≤ 100000000) :
    Calls Try.prog 37 #[v, .int .i64 k] w fun e w' => e = .returned (.int .i64 (k + n)) ∧ w'.ownsRow base 3 1 v n ((marks k n).map (Value.int .i64)) ∧ w.grownBy w' v.ownBlock := by
  by_cases h0 : n = 0
  · subst h0
    rcases h.2 with ⟨rfl, _⟩ | ⟨g, cap, cur, rfl, a1, a2, a3, a4, a5, a6⟩
    · go_enter Try.func37, Try.ntmps37
      go_wp2
      go_rounds 1
      go_ret
      exact ⟨by simp, by simpa [marks] using World.ownsRow_nil w base 3 1, ⟨rfl, rfl, rfl, Nat.le_refl _, fun _ _ _ => rfl⟩⟩
    · go_enter Try.func37, Try.ntmps37
      go_wp2
      go_rounds 1
      go_ret
      exact ⟨by simp, by have := h.1; simp at this; subst this; simpa [marks] using h, ⟨rfl, rfl, rfl, Nat.le_refl _, fun _ _ _ => rfl⟩⟩
  · obtain ⟨g, cap, rfl, hg⟩ := own_shape h (by rintro rfl; rcases h.2 with ⟨_, e⟩ | ⟨g, cap, cur, e, _⟩; exact h0 e; cases e)
    have HO := hidI h; clear h h0
    go_enter Try.func37, Try.ntmps37
    go_wp2
    go_loopw [1, 5] (fun q i wr => ∃ (j : Nat) (ys : List Value), j ≤ n ∧ i = .int .i64 j ∧ q = .int .i64 ((k + j : Nat) : Int) ∧ Hid (wr.ownsRow base 3 1 (.slice (some ⟨g, 0, none⟩) n cap) n ys) ∧ Hid (∀ t, t < j → ys[t]? = some (.int .i64 ((k + t : Nat) : Int))) ∧ Hid (w.grownBy wr (some g))) (fun _ i _ => n - (intOf i).toNat)
    case atStart => exact ⟨0, xs, by omega, rfl, by simp, HO, hidI (fun t ht => by omega), hidI ⟨rfl, rfl, rfl, Nat.le_refl _, fun _ _ _ => rfl⟩⟩
    case round =>
      clear HO
      obtain ⟨j, ys, hj, rfl, rfl, HO, HV, HG⟩ := hrel
      by_cases hlt : j < n
      · have hl : ys.length = n := by have := HO.out.1; omega
        have hy : ys[j]? = some ys[j] := List.getElem?_eq_getElem (by omega)
        obtain ⟨hc, hf⟩ := own_cell HO.out hy
        clear hy
        go_wp2
        go_roundw
        case rel =>
          refine ⟨j + 1, ys.set j (.int .i64 ((k + j : Nat) : Int)), by omega, by go_num, by go_num, hidI (by simpa using own_put HO.out j (.int .i64 ((k + j : Nat) : Int))), hidI ?_, hidI (grown_trans HG.out (grown_setCell _ _ _ _))⟩
          intro t ht
          by_cases e : t = j
          · subst e; rw [List.getElem?_set_self (by omega)]
          · rw [List.getElem?_set_ne (Ne.symm e)]; exact HV.out t (by omega)
        case measure => simp [intOf]; omega
      · obtain rfl : j = n := by omega
        go_wp2
        go_ret
        refine ⟨by go_num, ?_, HG.out⟩
        have hl : ys.length = j := by have := HO.out.1; omega
        have e : ys = (marks k j).map (Value.int .i64) := by
          refine List.ext_getElem? fun t => ?_
          by_cases ht : t < j
          · rw [HV.out t ht, List.getElem?_map]
            have := marks_getD k j t ht
            have e2 : (marks k j)[t]? = some ((marks k j).getD t 0) := by simp [List.getD, marks_length, ht]
            rw [e2, this]; simp
          · rw [List.getElem?_eq_none (by omega), List.getElem?_eq_none (by simp [marks_length]; omega)]
        rw [← e]; exact HO.out

set_option maxHeartbeats 400000 in
theorem heldIntS_any (n : Nat) (v : Value) (k : Nat) (w : World) (h : IntS w v (marks k n)) (hn : n ≤ 100000000) (hk : k ≤ 100000000) :
    Calls Try.prog 38 #[v, .int .i64 k] w fun e w' => e = .returned (.int .i64 (k + n)) ∧ w = w' := by
  obtain ⟨hz, ao, cap, rfl, hcap, hmax, hcells⟩ := h
  rw [marks_length] at *
  rcases hcells with ⟨hnil, _⟩ | ⟨b, off, rfl, hb, hc⟩
  · have h0 : n = 0 := by rw [← marks_length k n, hnil]; rfl
    clear hnil
    subst h0
    go_enter Try.func38, Try.ntmps38
    go_wp2
    go_rounds 1
    go_ret
    exact ⟨by simp, rfl⟩
  · unfold maxLen at hmax
    have Hc := hidI hc; clear hc hz
    go_enter Try.func38, Try.ntmps38
    go_wp2
    go_loop [1, 5] (fun q i => ∃ (j : Nat), j ≤ n ∧ i = .int .i64 j ∧ q = .int .i64 ((k + j : Nat) : Int)) (fun _ i => n - (intOf i).toNat)
    case atStart => exact ⟨0, by omega, rfl, by simp⟩
    case round =>
      obtain ⟨j, hj, rfl, rfl⟩ := hrel
      by_cases hlt : j < n
      · have hcell : w.cell? ⟨b, off + j, none⟩ = some (.int .i64 ((k + j : Nat) : Int)) := by rw [Hc.out j hlt, marks_getD k n j hlt]; simp
        go_wp2
        go_round
        case rel => exact ⟨j + 1, by omega, by go_num, by go_num⟩
        case measure => simp [intOf]; omega
      · obtain rfl : j = n := by omega
        go_wp2
        go_ret
        exact ⟨by go_num, rfl⟩

theorem markIntS_q (n : Nat) (xs : List Value) (base : Nat) (v : Value) (k : Nat) (q : Int) (w : World) (hq : q = k) (h : w.ownsRow base 3 1 v n xs) (hn : n ≤ 100000000) (hk : k ≤ 100000000) :
    Calls Try.prog 37 #[v, .int .i64 q] w fun e w' => e = .returned (.int .i64 (q + n)) ∧ w'.ownsRow base 3 1 v n ((marks k n).map (Value.int .i64)) ∧ w.grownBy w' v.ownBlock := by
  subst hq; exact markIntS_any n xs base v k w h hn hk

theorem heldIntS_q (n : Nat) (v : Value) (k : Nat) (q : Int) (w : World) (hq : q = k) (h : IntS w v (marks k n)) (hn : n ≤ 100000000) (hk : k ≤ 100000000) :
    Calls Try.prog 38 #[v, .int .i64 q] w fun e w' => e = .returned (.int .i64 (q + n)) ∧ w = w' := by
  subst hq; exact heldIntS_any n v k w h hn hk
end Go.Proofs.Ytmmggbcmailbiaa
