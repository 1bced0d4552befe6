/- Where a part of a code begins: spec.l5Span. -/
import Derived.Test.YtndbfdgflflfpaaTreeP
import Derived.Test.YtndbfdgflflfpaaInts
import Derived.Outline
namespace Go.Proofs.Ytndbfdgflflfpaa
open Go.RowKit

theorem spec_l5Takes (s : Int) (w : World) : Calls Try.prog 85 #[.int .i64 s] w fun e w' => e = .returned (.int .i64 (takes s)) ∧ w = w' := by
  unfold takes
  by_cases h7 : s = 7
  · subst h7
    go_enter Try.func85, Try.ntmps85
    go_wp2_with fail
    go_ret
    exact ⟨rfl, rfl⟩
  · by_cases h8 : s = 8
    · subst h8
      go_enter Try.func85, Try.ntmps85
      go_wp2_with fail
      go_ret
      exact ⟨rfl, rfl⟩
    · by_cases h9 : s = 9
      · subst h9
        go_enter Try.func85, Try.ntmps85
        go_wp2_with fail
        go_ret
        exact ⟨rfl, rfl⟩
      · rw [if_neg h7, if_neg (by omega)]
        have e7 : (s == 7) = false := by simp; omega
        have e8 : (s == 8) = false := by simp; omega
        have e9 : (s == 9) = false := by simp; omega
        clear h7 h8 h9
        go_enter Try.func85, Try.ntmps85
        go_wp2_with fail
        go_ret
        exact ⟨rfl, rfl⟩

set_option maxHeartbeats 400000 in
/-- Where the part begins that ends ahead of what is behind it. -/
theorem spec_l5Span (p r : List Int) (t : Cond) (ht : t.Ok) (v : Value) (w : World) (h : IntS w v (p ++ t.steps ++ r)) (hl : (p ++ t.steps ++ r).length ≤ 100000) (n : Int) (hn : n = (p.length + t.steps.length : Nat) - 1) :
    Calls Try.prog 83 #[v, .int .i64 n] w fun e w' => e = .returned (.int .i64 p.length) ∧ w = w' := by
  have hN : (p ++ t.steps ++ r).length = p.length + t.steps.length + r.length := by simp; omega
  have HG : Hid (∀ j, j < t.steps.length → (p ++ t.steps ++ r).getD (p.length + j) 0 = t.steps.getD j 0) := hidI (fun j hj => by
    simp only [List.getD]
    rw [List.append_assoc, List.getElem?_append_right (by omega), List.getElem?_append_left (by omega)]; congr 2; omega)
  generalize p ++ t.steps ++ r = zs at *
  obtain ⟨hz, ao, cap, rfl, hcap, hmax, hcells⟩ := h
  unfold maxLen at hmax
  have hne := steps_ne t
  rcases hcells with ⟨rfl, _⟩ | ⟨b, off, rfl, hb, hc⟩
  · simp at hN; omega
  · have HW := hidI (wt_drop t ht); have HW0 := hidI (wt_steps t ht)
    have HR := hidI (steps_range t ht)
    have hn0 : 0 ≤ n := by omega
    have hn1 : n ≤ 100000 := by omega
    go_enter Try.func83, Try.ntmps83
    go_wp2_with fail
    go_loopw [5, 6] (fun nd at_ wr => wr = w ∧ ∃ (j : Nat) (a q : Int), at_ = .int .i64 a ∧ Hid (j ≤ t.steps.length ∧ a = p.length + j) ∧ nd = .int .i64 q ∧ Hid (q = 1 + wt (t.steps.drop j) ∧ (1 ≤ j → 1 ≤ q) ∧ (j = 0 → q = 0) ∧ q ≤ 100001 - j)) (fun _ at_ _ => (intOf at_).toNat)
    case atStart => exact ⟨rfl, t.steps.length, _, 1, rfl, hidI ⟨Nat.le_refl _, by omega⟩, rfl, hidI ⟨by rw [List.drop_length]; rfl, fun _ => by omega, fun h => by omega, by omega⟩⟩
    case round =>
      obtain ⟨rfl, j, a, q, rfl, HJ, rfl, HQ⟩ := hrel
      obtain ⟨hj, ha⟩ := HJ.out
      obtain ⟨hQ, hq1, hq0, hq2⟩ := HQ.out
      rcases j with _ | j
      · obtain rfl := hq0 rfl
        clear hq0 hq1 hq2 hQ HQ
        go_wp2_with fail
        go_ret
        refine ⟨?_, rfl⟩
        have := HJ.out.2
        show Ending.returned (.int .i64 a) = _
        rw [this]; simp
      · have hq3 := hq1 (by omega)
        obtain ⟨z, Hd, Hg, HP⟩ := at_k t.steps j
        have hcell : wr.cell? ⟨b, off + (a.toNat - 1), none⟩ = some (.int .i64 z) := by
          rw [← Hg.out (by omega), ← HG.out j (by omega), show a.toNat - 1 = p.length + j by omega]; exact hc _ (by omega)
        have HQ2 : Hid (q - 1 + takes z = 1 + wt (t.steps.drop j)) := hidI (by rw [Hd.out (by omega), wt]; omega)
        have hz : z ≤ 9 ∧ 0 ≤ z := ⟨(HP (fun z => 0 ≤ z ∧ z ≤ 9) (HR.out) (by omega)).2, (HP (fun z => 0 ≤ z ∧ z ≤ 9) (HR.out) (by omega)).1⟩
        have ht2 : 0 ≤ takes z ∧ takes z ≤ 2 := by unfold takes; repeat' split <;> omega
        have HT := hidI (spec_l5Takes z wr)
        have ha1 : 0 ≤ a - 1 := by omega
        have ha2 : a - 1 < (zs.length : Int) := by omega
        have ha3 : a ≤ 100001 := by omega
        have hq4 : q ≤ 100001 := by omega
        have HWj := hidI (fun (h : 1 ≤ j) => wt_drop t ht j h)
        have HW1 := hidI (wt_steps t ht)
        generalize takes z = tz at HQ2 ht2 HT
        obtain ⟨ht3, ht4⟩ := ht2
        have Hc := hidI hc; have HZ := hidI hz; have HL := hidI hl; have HN := hidI hN; have Hn := hidI hn
        clear hc hz hl hN hn hn0 hn1 hq1 hq0 hq2 hj ha hQ HP
        go_wp2_with fail
        refine HT.out.mono ?_; rintro e w' ⟨rfl, rfl⟩
        go_wp2_with fail
        refine ⟨?rel, ?measure⟩
        case rel =>
          refine ⟨trivial, j, a - 1, q - 1 + tz, rfl, hidI ⟨by have := HJ.out.1; omega, by have := HJ.out.2; omega⟩, rfl, hidI ⟨HQ2.out, fun h => ?_, fun h => ?_, ?_⟩⟩
          · have := HWj.out h; have := HQ2.out; omega
          · subst h; have := HQ2.out; rw [List.drop_zero, HW1.out] at this; omega
          · have := HQ.out.2.2.2; have := HJ.out.1; omega
        case measure => simp [intOf]; omega
end Go.Proofs.Ytndbfdgflflfpaa
