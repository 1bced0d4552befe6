/- impl.CodeDepth and spec.CodeDepth compute codeDepth. -/
import Derived.Test.YtndbfdgflflfpaaRows
import Derived.Test.YtndbfdgflflfpaaBase
namespace Go.Proofs.Ytndbfdgflflfpaa
open Go.RowKit

def cdGo : List Int → Int → Int → Int
  | [], d, m => if d = 1 then m else -1
  | s :: l, d, m =>
    if s < 0 ∨ 9 < s then -1
    else if s ≤ 6 then cdGo l (d + 1) (if m < d + 1 then d + 1 else m)
    else if s = 7 then (if d < 1 then -1 else cdGo l d (if m < d then d else m))
    else if d < 2 then -1 else cdGo l (d - 1) (if m < d - 1 then d - 1 else m)

def codeDepth (zs : List Int) : Int := if zs.length < 1 ∨ 40 < zs.length then -1 else cdGo zs 0 0

set_option maxHeartbeats 400000 in
theorem impl_CodeDepth (zs : List Int) (v : Value) (w : World) (h : IntS w v zs) :
    Calls Try.prog 57 #[v] w fun e w' => e = .returned (.int .i64 (codeDepth zs)) ∧ w = w' := by
  obtain ⟨hz, ao, cap, rfl, hcap, hmax, hcells⟩ := h
  rcases hcells with ⟨rfl, _⟩ | ⟨b, off, rfl, hb, hc⟩
  · go_enter Try.func57, Try.ntmps57
    go_wp2
    go_ret
    exact ⟨rfl, rfl⟩
  · unfold maxLen at hmax
    by_cases hlen : zs.length < 1 ∨ 40 < zs.length
    · have HF := hidI (show codeDepth zs = -1 by unfold codeDepth; rw [if_pos hlen])
      rcases hlen with hlen | hlen
      · go_enter Try.func57, Try.ntmps57
        go_wp2
        go_ret
        exact ⟨ret_int HF.out.symm, rfl⟩
      · go_enter Try.func57, Try.ntmps57
        go_wp2
        go_ret
        exact ⟨ret_int HF.out.symm, rfl⟩
    · have HF := hidI (show codeDepth zs = cdGo (zs.drop 0) 0 0 by unfold codeDepth; rw [if_neg hlen]; rfl)
      have hl1 : 1 ≤ zs.length := by omega
      have hl2 : zs.length ≤ 40 := by omega
      clear hlen
      go_enter Try.func57, Try.ntmps57
      go_wp2
      go_loop [3, 4, 17] (fun d m i => ∃ (k : Nat) (D M : Int), k ≤ zs.length ∧ i = .int .i64 k ∧ d = .int .i64 D ∧ m = .int .i64 M ∧ Hid (codeDepth zs = cdGo (zs.drop k) D M) ∧ 0 ≤ D ∧ D ≤ k ∧ 0 ≤ M ∧ M ≤ k) (fun _ _ i => zs.length - (intOf i).toNat)
      case atStart => exact ⟨0, 0, 0, by omega, rfl, rfl, rfl, HF, by omega, by omega, by omega, by omega⟩
      case round =>
        clear HF
        obtain ⟨k, D, M, hk, rfl, rfl, rfl, HR, h1, h2, h3, h4⟩ := hrel
        obtain ⟨z, Hd, Hg, _⟩ := at_k zs k
        have hcell : k < zs.length → w.cell? ⟨b, off + k, none⟩ = some (.int .i64 z) := fun h => by rw [← Hg.out h]; exact hc k h
        clear hc hz
        go_wp2
        all_goals (try simp only [beq_iff_eq, bne_iff_ne, beq_eq_false_iff_ne, bne_eq_false_iff_eq, ne_eq] at *)
        all_goals first
          | (go_ret
             refine ⟨ret_int ?_, rfl⟩
             rw [HR.out]
             first | rw [Hd.out (by omega)] | rw [List.drop_of_length_le (by omega)]
             simp (disch := omega) only [cdGo, if_pos, if_neg])
          | (go_round
             case rel =>
               refine ⟨k + 1, _, _, by omega, by go_num, rfl, rfl, hidI ?_, by omega, by omega, by omega, by omega⟩
               rw [HR.out, Hd.out (by omega)]
               simp (disch := omega) only [cdGo, if_pos, if_neg]
             case measure => simp [intOf]; omega)
end Go.Proofs.Ytndbfdgflflfpaa
