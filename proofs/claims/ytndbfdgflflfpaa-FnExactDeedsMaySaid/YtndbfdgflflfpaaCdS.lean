/- spec.CodeDepth computes codeDepth. -/
import Derived.Test.YtndbfdgflflfpaaCd
import Derived.Outline
namespace Go.Proofs.Ytndbfdgflflfpaa
open Go.RowKit

theorem spec_l1In (n lo hi : Int) (w : World) (h : lo ≤ n ∧ n ≤ hi) :
    Calls Try.prog 52 #[.int .i64 n, .int .i64 lo, .int .i64 hi] w fun e w' => e = .returned (.bool true) ∧ w = w' := by
  obtain ⟨h1, h2⟩ := h
  go_enter Try.func52, Try.ntmps52
  go_wp2
  go_ret
  exact ⟨ret_bool (by first | rfl | (simp; done) | (simp; omega)), rfl⟩

theorem spec_l1In' (n lo hi : Int) (w : World) (h : n < lo ∨ hi < n) :
    Calls Try.prog 52 #[.int .i64 n, .int .i64 lo, .int .i64 hi] w fun e w' => e = .returned (.bool false) ∧ w = w' := by
  go_enter Try.func52, Try.ntmps52
  go_wp2
  all_goals go_ret
  all_goals exact ⟨ret_bool (by first | rfl | (simp; done) | (simp; omega)), rfl⟩

theorem cd_m1 {zs : List Int} (h : cdGo zs 0 0 = -1) : codeDepth zs = -1 := by unfold codeDepth; rw [h]; split <;> rfl

set_option maxHeartbeats 400000 in
theorem spec_CodeDepth (zs : List Int) (v : Value) (w : World) (h : IntS w v zs) (hlen : zs.length ≤ 4000000) :
    Calls Try.prog 62 #[v] w fun e w' => e = .returned (.int .i64 (codeDepth zs)) ∧ w = w' := by
  obtain ⟨hz, ao, cap, rfl, hcap, hmax, hcells⟩ := h
  rcases hcells with ⟨rfl, _⟩ | ⟨b, off, rfl, hb, hc⟩
  · go_enter Try.func62, Try.ntmps62
    go_wp2
    go_rounds 1
    go_ret
    exact ⟨rfl, rfl⟩
  · unfold maxLen at hmax
    have HF := hidI (show cdGo zs 0 0 = cdGo (zs.drop 0) 0 0 from rfl)
    go_enter Try.func62, Try.ntmps62
    go_wp2
    go_loop [3, 4, 5] (fun d m i => ∃ (k : Nat) (D M : Int), k ≤ zs.length ∧ i = .int .i64 k ∧ d = .int .i64 D ∧ m = .int .i64 M ∧ Hid (cdGo zs 0 0 = cdGo (zs.drop k) D M) ∧ 0 ≤ D ∧ D ≤ k ∧ 0 ≤ M ∧ M ≤ k) (fun _ _ i => zs.length - (intOf i).toNat)
    case atStart => exact ⟨0, 0, 0, by omega, rfl, rfl, rfl, HF, by omega, by omega, by omega, by omega⟩
    case round =>
        clear HF
        obtain ⟨k, D, M, hk, rfl, rfl, rfl, HR, h1, h2, h3, h4⟩ := hrel
        obtain ⟨z, Hd, Hg, _⟩ := at_k zs k
        have hcell : k < zs.length → w.cell? ⟨b, off + k, none⟩ = some (.int .i64 z) := fun h => by rw [← Hg.out h]; exact hc k h
        clear hc hz
        go_wp2
        all_goals (try simp only [beq_iff_eq, bne_iff_ne, beq_eq_false_iff_ne, bne_eq_false_iff_eq, ne_eq] at *)
        all_goals first
          | (go_ret
             refine ⟨ret_int (Eq.symm (cd_m1 ?_)), rfl⟩
             rw [HR.out, Hd.out (by omega)]
             simp (disch := omega) only [cdGo, if_pos, if_neg]
             done)
          | (go_ret
             refine ⟨ret_int ?_, rfl⟩
             unfold codeDepth
             rw [HR.out, List.drop_of_length_le (by omega)]
             simp (disch := omega) only [cdGo, if_pos, if_neg]
             done)
          | (go_round
             case rel =>
               (try rw [show D - 2 + 1 = D - 1 by omega])
               refine ⟨k + 1, _, _, by omega, by go_num, rfl, rfl, hidI ?_, by omega, by omega, by omega, by omega⟩
               rw [HR.out, Hd.out (by omega)]
               simp (disch := omega) only [cdGo, if_pos, if_neg]
             case measure => simp [intOf]; omega)
end Go.Proofs.Ytndbfdgflflfpaa
