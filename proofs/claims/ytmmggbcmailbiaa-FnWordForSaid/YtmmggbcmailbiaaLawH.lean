/- The laws' helpers: both, sameInts, hasInt, ascend. -/
import Derived.Test.YtmmggbcmailbiaaInts
import Derived.Test.YtmmggbcmailbiaaBits
import Derived.Test.YtmmggbcmailbiaaSets
import Derived.Deep.QuietTactic
import Derived.BigQuiet
import Derived.Outline
namespace Go.Proofs.Ytmmggbcmailbiaa
open Go.RowKit



set_option maxHeartbeats 400000 in
theorem sameInts_any (zs ys : List Int) (v u : Value) (w : World) (h : IntS w v zs) (hu : IntS w u ys) :
    Calls Try.prog 19 #[v, u] w fun e w' => e = .returned (.bool (decide (zs = ys))) ∧ ∃ n, w' = w.drewN n := by
  obtain ⟨hz, ao, cap, rfl, hcap, hmax, hcells⟩ := h
  obtain ⟨hy, ao', cap', rfl, hcap', hmax', hcells'⟩ := hu
  unfold maxLen at hmax hmax'
  by_cases hl : zs.length = ys.length
  · rcases hcells with ⟨rfl, _⟩ | ⟨b, off, rfl, hb, hc⟩
    · obtain rfl : ys = [] := List.eq_nil_of_length_eq_zero hl.symm
      go_enter Try.func19, Try.ntmps19
      go_wp2
      go_rounds 1
      go_ret
      exact ⟨rfl, 0, rfl⟩
    · rcases hcells' with ⟨rfl, _⟩ | ⟨b', off', rfl, hb', hc'⟩
      · obtain rfl : zs = [] := List.eq_nil_of_length_eq_zero hl
        go_enter Try.func19, Try.ntmps19
        go_wp2
        go_rounds 1
        go_ret
        exact ⟨rfl, 0, rfl⟩
      · have HL := hidI hl; clear hl
        have hle : zs.length ≤ ys.length := by rw [HL.out]; exact Nat.le_refl _
        have hge : ys.length ≤ zs.length := by rw [HL.out]; exact Nat.le_refl _
        go_enter Try.func19, Try.ntmps19
        go_wp2
        go_loopw [5] (fun i wr => ∃ k n : Nat, k ≤ zs.length ∧ i = .int .i64 k ∧ Hid (zs.take k = ys.take k) ∧ Hid (wr = w.drewN n)) (fun i _ => zs.length - (intOf i).toNat)
        case atStart => exact ⟨0, 0, by omega, rfl, hidI (by simp), hidI rfl⟩
        case round =>
          obtain ⟨k, n, hk, rfl, HR, HW⟩ := hrel
          obtain ⟨z, Hd, Hg, _⟩ := at_k zs k
          obtain ⟨y, Hd', Hg', _⟩ := at_k ys k
          by_cases hlt : k < zs.length
          · have hlt' : k < ys.length := by omega
            have hcell : wr.cell? ⟨b, off + k, none⟩ = some (.int .i64 z) := by rw [HW.out, ← Hg.out hlt]; simpa using hc k hlt
            have hcell' : wr.cell? ⟨b', off' + k, none⟩ = some (.int .i64 y) := by rw [HW.out, ← Hg'.out hlt']; simpa using hc' k hlt'
            have hk1 : (k : Int) < (zs.length : Int) := by omega
            have hk2 : (k : Int) < (ys.length : Int) := by omega
            have Hc := hidI hc; have Hc' := hidI hc'; clear hc hc'
            by_cases hzy : z = y
            · subst hzy
              go_wp2
              go_quiet (fail)
              go_wp2
              go_roundw
              case rel => exact ⟨k + 1, n + nq, by omega, by go_num, hidI (take_next HR.out (Hd.out hlt) (Hd'.out hlt')), hidI (by rw [HW.out, World.drewN_drewN])⟩
              case measure => simp [intOf]; omega
            · go_wp2
              go_quiet (fail)
              go_wp2
              all_goals first
                | (exfalso; simp_all; done)
                | (go_ret
                   refine ⟨ret_bool ?_, n + nq, by rw [HW.out, World.drewN_drewN]⟩
                   rw [decide_eq_false (eq_drop (Hd.out hlt) (Hd'.out hlt') hzy)])
          · have Hc := hidI hc; have Hc' := hidI hc'; clear hc hc'
            go_wp2
            go_ret
            refine ⟨ret_bool ?_, n, HW.out⟩
            have := HR.out
            rw [List.take_of_length_le (by omega), List.take_of_length_le (by omega)] at this
            simp [this]
  · go_enter Try.func19, Try.ntmps19
    go_wp2
    go_ret
    refine ⟨ret_bool ?_, 0, rfl⟩
    rw [decide_eq_false (fun e => hl (by rw [e]))]

set_option maxHeartbeats 400000 in
theorem laws_hasInt (zs : List Int) (x : Int) (v : Value) (w : World) (h : IntS w v zs) :
    Calls Try.prog 55 #[v, .int .i64 x] w fun e w' => e = .returned (.bool (decide (x ∈ zs))) ∧ w = w' := by
  obtain ⟨hz, ao, cap, rfl, hcap, hmax, hcells⟩ := h
  rcases hcells with ⟨rfl, _⟩ | ⟨b, off, rfl, hb, hc⟩
  · go_enter Try.func55, Try.ntmps55
    go_wp2
    go_rounds 1
    go_ret
    exact ⟨rfl, rfl⟩
  · unfold maxLen at hmax
    go_enter Try.func55, Try.ntmps55
    go_wp2
    go_loop [5] (fun i => ∃ k : Nat, k ≤ zs.length ∧ i = .int .i64 k ∧ Hid (x ∈ zs ↔ x ∈ zs.drop k)) (fun i => zs.length - (intOf i).toNat)
    case atStart => exact ⟨0, by omega, rfl, hidI (by simp)⟩
    case round =>
      obtain ⟨k, hk, rfl, HR⟩ := hrel
      obtain ⟨z, Hd, Hg, _⟩ := at_k zs k
      by_cases hlt : k < zs.length
      · have hcell : w.cell? ⟨b, off + k, none⟩ = some (.int .i64 z) := by rw [← Hg.out hlt]; exact hc k hlt
        have Hc := hidI hc; clear hc
        by_cases e : z = x
        · subst e
          go_wp2_with fail
          go_ret
          have hd : decide (z ∈ zs) = true := decide_eq_true (HR.out.2 (by rw [Hd.out hlt]; simp))
          first | exact ⟨rfl, rfl⟩ | (rw [hd]; exact ⟨rfl, rfl⟩)
        · have hne : (z == x) = false := by simpa using e
          have HE := hidI e; clear e
          go_wp2_with fail
          go_round
          case rel => exact ⟨k + 1, by omega, by go_num, hidI (by rw [HR.out, Hd.out hlt]; simp [Ne.symm HE.out])⟩
          case measure => simp [intOf]; omega
      · have Hc := hidI hc; clear hc
        go_wp2_with fail
        go_ret
        have hd : decide (x ∈ zs) = false := decide_eq_false (by rw [HR.out, List.drop_of_length_le (by omega)]; simp)
        rw [hd]; exact ⟨rfl, rfl⟩

set_option maxHeartbeats 400000 in
theorem laws_ascend (zs : List Int) (v : Value) (w : World) (h : IntS w v zs) (ha : ∀ i, i + 1 < zs.length → zs.getD i 0 < zs.getD (i + 1) 0) :
    Calls Try.prog 56 #[v] w fun e w' => e = .returned (.bool true) ∧ ∃ n, w' = w.drewN n := by
  obtain ⟨hz, ao, cap, rfl, hcap, hmax, hcells⟩ := h
  rcases hcells with ⟨rfl, _⟩ | ⟨b, off, rfl, hb, hc⟩
  · go_enter Try.func56, Try.ntmps56
    go_wp2
    go_rounds 1
    go_ret
    exact ⟨rfl, 0, rfl⟩
  · unfold maxLen at hmax
    have HA := hidI ha; clear ha
    go_enter Try.func56, Try.ntmps56
    go_wp2
    go_loopw [3] (fun i wr => ∃ k n : Nat, 1 ≤ k ∧ i = .int .i64 k ∧ Hid (wr = w.drewN n) ∧ (k ≤ zs.length ∨ k = 1)) (fun i _ => zs.length - (intOf i).toNat)
    case atStart => exact ⟨1, 0, by omega, rfl, hidI rfl, by omega⟩
    case round =>
      obtain ⟨k, n, hk, rfl, HW, hk2⟩ := hrel
      by_cases hlt : k < zs.length
      · obtain ⟨y, hy⟩ : ∃ y, y = zs.getD (k - 1) 0 := ⟨_, rfl⟩
        obtain ⟨z, hz⟩ : ∃ z, z = zs.getD k 0 := ⟨_, rfl⟩
        have hcell : wr.cell? ⟨b, off + k, none⟩ = some (.int .i64 z) := by rw [HW.out, hz]; simpa using hc k hlt
        have hcell' : wr.cell? ⟨b, off + (k - 1), none⟩ = some (.int .i64 y) := by rw [HW.out, hy]; simpa using hc (k - 1) (by omega)
        have hyz : y < z := by rw [hy, hz]; have := HA.out (k - 1) (by omega); rwa [show k - 1 + 1 = k by omega] at this
        have Hc := hidI hc; clear hc hy hz
        have hk1 : (k : Int) < (zs.length : Int) := by omega
        go_wp2_with fail
        go_quiet (fail)
        go_wp2_with fail
        go_roundw
        case rel => exact ⟨k + 1, n + nq, by omega, by go_num, hidI (by rw [HW.out, World.drewN_drewN]), by omega⟩
        case measure => simp [intOf]; omega
      · have Hc := hidI hc; clear hc
        go_wp2_with fail
        go_ret
        exact ⟨rfl, n, HW.out⟩
end Go.Proofs.Ytmmggbcmailbiaa
