/- impl's reader of codes: one sign. -/
import Derived.Test.YtndbfdgflflfpaaTextP
import Derived.Test.YtndbfdgflflfpaaStepL
import Derived.Deep.QuietTactic
import Derived.BigQuiet
import Derived.Outline
namespace Go.Proofs.Ytndbfdgflflfpaa
open Go.RowKit

/-- The bytes of a text. -/
def bs (s : ByteArray) : List Nat := s.data.toList.map UInt8.toNat

theorem bs_len (s : ByteArray) : (bs s).length = s.size := by unfold bs; rw [List.length_map, Array.length_toList]; rfl

theorem bs_get (s : ByteArray) (k : Nat) (h : k < s.size) : (bs s)[k]? = some (s[k].toNat) := by
  have h0 : s.data.toList[k]? = some (s[k]) := by
    rw [Array.getElem?_toList, Array.getElem?_eq_getElem h]; rfl
  unfold bs
  rw [List.getElem?_map, h0]; rfl

/-- Block B holds the reader at place k. -/
def RB (w : World) (B : Nat) (s : ByteArray) (k : Nat) : Prop := w.heap[B]? = some (.cells #[.string s, .int .i64 (k : Int)] 59 (0, 0))

set_option maxRecDepth 100000 in
set_option maxHeartbeats 1000000 in
theorem impl_next (s : ByteArray) (B k c : Nat) (w : World) (h : RB w B s k) (hk : k ≤ s.size) (hs : s.size ≤ 1000) (hc : c < 256) :
    Calls Try.prog 65 #[.pointer (some ⟨B, 0, none⟩), .int .u8 (c : Int)] w fun e w' => ∃ b : Bool, e = .returned (.bool b) ∧ (b = true ↔ (bs s)[k]? = some c) ∧ RB w' B s (if b then k + 1 else k) ∧ w.grownBy w' (some B) := by
  have c0 : w.cell? ⟨B, 0, none⟩ = some (.string s) := (blk_cell h 0).trans rfl
  have c1 : w.cell? ⟨B, 1, none⟩ = some (.int .i64 (k : Int)) := (blk_cell h 1).trans rfl
  have f1 := blk_frozen h 1
  have HB := hidI h; clear h
  by_cases hlt : k < s.size
  · have h1 : (k : Int) < (s.size : Int) := by omega
    go_enter Try.func65, Try.ntmps65
    go_wp2_with fail
    first | (go_quiet (fail)) | (go_region) | fail
    go_wp2_with fail
    · rename_i hcond
      go_ret
      refine ⟨false, rfl, ?_, by show RB w B s k; exact HB.out, ⟨rfl, rfl, rfl, Nat.le_refl _, fun _ _ _ => rfl⟩⟩
      have hne : ¬ s[k].toNat = c := by
        rcases hcond with h | h
        · omega
        · intro e; rw [e] at h; simp at h
      rw [bs_get s k hlt]
      simp [hne]
    · rename_i hcond
      have he : s[k].toNat = c := by
        have := hcond.2
        simp only [bne_eq_false_iff_eq] at this
        omega
      go_ret
      refine ⟨true, rfl, by rw [bs_get s k hlt, he]; simp, ?_, ?_⟩
      · have := blk_set (w := w.drewN nq) HB.out 1 (.int .i64 ((k : Int) + 1))
        simpa [RB] using this
      · exact ⟨rfl, rfl, rfl, by simp [World.setCell], fun j _ hj => Below.heap_setCell _ _ _ _ (fun e => hj (by rw [e]))⟩
  · have h1 : (s.size : Int) ≤ (k : Int) := by omega
    have hn : (bs s)[k]? = none := by rw [List.getElem?_eq_none_iff, bs_len]; omega
    have HN := hidI hn; clear hn
    go_enter Try.func65, Try.ntmps65
    go_wp2_with fail
    go_region
    go_wp2_with fail
    go_ret
    refine ⟨false, rfl, by rw [HN.out]; simp, by show RB w B s k; exact HB.out, ⟨rfl, rfl, rfl, Nat.le_refl _, fun _ _ _ => rfl⟩⟩
end Go.Proofs.Ytndbfdgflflfpaa
