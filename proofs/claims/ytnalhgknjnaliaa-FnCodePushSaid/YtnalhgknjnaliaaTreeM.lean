/- impl.pushedIn turns a tree round at its facts. -/
import Derived.Test.YtnalhgknjnaliaaTreeF
import Derived.Test.YtnalhgknjnaliaaTreeS
namespace Go.Proofs.Ytnalhgknjnaliaa
open Go.RowKit

set_option maxRecDepth 100000 in
set_option maxHeartbeats 1000000 in
theorem impl_pushedIn (c : Cond) : ∀ (t : Bool) (w : World), c.Ok → Calls Try.prog 45 #[c.val, .bool t] w fun e w' => e = .returned (psh c t).val ∧ Below w.heap.size w w' := by
  induction c with
  | one s =>
    intro t w hk
    have hk1 : 0 ≤ s ∧ s ≤ 6 := hk
    obtain ⟨k1, k2⟩ := hk1
    clear hk
    have q1 := ta_single_turned; have q2 := ta_single_joined; have q3 := ta_single_single
    have HB : Hid (∀ o, Below w.heap.size w (w.alloc o)) := hidI (fun o => (Below.refl _ _).alloc (Nat.le_refl _) _)
    cases t
    · have HV := hidI (show (psh (.one s) false).val = .iface 76 (.agg #[.int .i64 s]) from rfl)
      show Calls Try.prog 45 #[.iface 76 (.agg #[.int .i64 s]), .bool false] w _
      go_enter Try.func45, Try.ntmps45
      go_wp2_with fail
      go_ret
      exact ⟨by rw [HV.out]; rfl, HB.out _⟩
    · by_cases h5 : 5 ≤ s
      · have HV := hidI (show (psh (.one s) true).val = .iface 76 (.agg #[.int .i64 (11 - s)]) by simp [psh, h5, Cond.val])
        show Calls Try.prog 45 #[.iface 76 (.agg #[.int .i64 s]), .bool true] w _
        go_enter Try.func45, Try.ntmps45
        go_wp2_with fail
        go_ret
        exact ⟨by rw [HV.out]; rfl, HB.out _⟩
      · have HV := hidI (show (psh (.one s) true).val = .iface 79 (.agg #[.iface 76 (.agg #[.int .i64 s])]) by simp [psh, h5, Cond.val])
        have h5' : s < 5 := by omega
        clear h5
        show Calls Try.prog 45 #[.iface 76 (.agg #[.int .i64 s]), .bool true] w _
        go_enter Try.func45, Try.ntmps45
        go_wp2_with fail
        go_ret
        exact ⟨by rw [HV.out]; rfl, HB.out _⟩
  | neg c ih =>
    intro t w hk
    have q1 := ta_turned_turned
    have IH := hidI (fun t w => ih t w hk)
    have HV := hidI (show (psh (.neg c) t).val = (psh c (!t)).val from rfl)
    show Calls Try.prog 45 #[.iface 79 (.agg #[c.val]), .bool t] w _
    obtain ⟨T, A, hA⟩ := c.shape
    rw [hA] at IH ⊢
    rw [HV.out]
    obtain ⟨T2, A2, hA2⟩ := (psh c (!t)).shape
    have HE := hidI hA2
    clear ih hk hA
    cases t
    all_goals
      go_enter Try.func45, Try.ntmps45
      go_wp2_with fail
      refine (IH.out _ _).mono ?_; rintro e w1 ⟨rfl, b1⟩
      have HB := hidI (((Below.refl w.heap.size w).alloc (Nat.le_refl _) _).trans (b1.mono (by simp)))
      go_wp2_with fail
      go_ret
      exact ⟨rfl, HB.out⟩
  | two s l h ihl ihh =>
    intro t w hk
    obtain ⟨k1, k2, k3⟩ := hk
    have q1 := ta_joined_turned; have q2 := ta_joined_joined
    have HV := hidI (show (psh (.two s l h) t).val = .iface 83 (.agg #[.int .i64 (if t then 17 - s else s), (psh l t).val, (psh h t).val]) from rfl)
    show Calls Try.prog 45 #[.iface 83 (.agg #[.int .i64 s, l.val, h.val]), .bool t] w _
    have IHL := hidI (fun w => ihl t w k2)
    have IHH := hidI (fun w => ihh t w k3)
    obtain ⟨T, A, hA⟩ := l.shape
    obtain ⟨T2, A2, hA2⟩ := h.shape
    obtain ⟨U, E, hE⟩ := (psh l t).shape
    obtain ⟨U2, E2, hE2⟩ := (psh h t).shape
    rw [hA, hE] at IHL
    rw [hA2, hE2] at IHH
    rw [hA, hA2]
    rw [hE, hE2] at HV
    clear ihl ihh k2 k3 hA hA2 hE hE2
    have hs1 : 0 ≤ s ∧ s ≤ 9 := by omega
    obtain ⟨s1, s2⟩ := hs1
    clear k1
    cases t
    all_goals
      go_enter Try.func45, Try.ntmps45
      go_wp2_with fail
      have c0 : (w.alloc (.cells #[.int .i64 s, .iface T A, .iface T2 A2] 83)).cell? ⟨w.heap.size, 0, none⟩ = some (.int .i64 s) := cell_at rfl rfl
      have c1 : (w.alloc (.cells #[.int .i64 s, .iface T A, .iface T2 A2] 83)).cell? ⟨w.heap.size, 1, none⟩ = some (.iface T A) := cell_at rfl rfl
      have c2 : (w.alloc (.cells #[.int .i64 s, .iface T A, .iface T2 A2] 83)).cell? ⟨w.heap.size, 2, none⟩ = some (.iface T2 A2) := cell_at rfl rfl
      have B0 : Below w.heap.size w (w.alloc (.cells #[.int .i64 s, .iface T A, .iface T2 A2] 83)) := (Below.refl _ _).alloc (Nat.le_refl _) _
      have hs0 : w.heap.size < (w.alloc (.cells #[.int .i64 s, .iface T A, .iface T2 A2] 83)).heap.size := by simp
      generalize w.alloc (.cells #[.int .i64 s, .iface T A, .iface T2 A2] 83) = W0 at c0 c1 c2 B0 hs0 ⊢
      have HB0 := hidI B0; have HS0 := hidI hs0; clear B0 hs0
      go_region_held3 (fun W => W.cell? ⟨w.heap.size, 0, none⟩ = some (.int .i64 s) ∧ W.cell? ⟨w.heap.size, 1, none⟩ = some (.iface T A) ∧ W.cell? ⟨w.heap.size, 2, none⟩ = some (.iface T2 A2)) (first | exact ⟨c0, c1, c2⟩ | (refine ⟨?_, ?_, ?_⟩ <;> assumption)) (first | (go_at_call_of 45 A; refine (IHL.out _).mono ?_; rintro e w5 ⟨rfl, b5⟩; have d0 := (b5.cell (p := ⟨w.heap.size, 0, none⟩) HS0.out).trans c0; have d1 := (b5.cell (p := ⟨w.heap.size, 1, none⟩) HS0.out).trans c1; have d2 := (b5.cell (p := ⟨w.heap.size, 2, none⟩) HS0.out).trans c2; have q5 := Nat.lt_of_lt_of_le HS0.out b5.size; have B5 := hidI (HB0.out.drew.trans (b5.mono (Nat.le_of_lt HS0.out))); clear b5) | (go_at_call_of 45 A2; refine (IHH.out _).mono ?_; rintro e w6 ⟨rfl, b6⟩; have e0 := (b6.cell (p := ⟨w.heap.size, 0, none⟩) q5).trans d0; have e1 := (b6.cell (p := ⟨w.heap.size, 1, none⟩) q5).trans d1; have e2 := (b6.cell (p := ⟨w.heap.size, 2, none⟩) q5).trans d2; have B6 := hidI (B5.out.trans (b6.mono (Nat.le_of_lt q5))); clear b6) | fail)
      go_wp2_with fail
      go_ret
      exact ⟨by rw [HV.out]; rfl, B6.out⟩
end Go.Proofs.Ytnalhgknjnaliaa
