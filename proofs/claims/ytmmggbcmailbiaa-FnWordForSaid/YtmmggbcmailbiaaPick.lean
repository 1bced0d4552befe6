/- The draws' reader: l20Open, pick, odd. -/
import Derived.Test.YtmmggbcmailbiaaRows
import Derived.Test.YtmmggbcmailbiaaBits
import Derived.Test.YtmmggbcmailbiaaOwn
import Derived.BigQuiet
import Derived.Deep.QuietTactic
import Derived.Outline
namespace Go.Proofs.Ytmmggbcmailbiaa
open Go.RowKit

/-- v is a slice of n bytes, in blocks below r. -/
def BytS (w : World) (r : Nat) (v : Value) (n : Nat) : Prop :=
  ∃ ao cap, v = .slice ao n cap ∧ n ≤ cap ∧ cap ≤ maxLen ∧ (n = 0 ∨ ∃ b off, ao = some ⟨b, off, none⟩ ∧ b < r ∧ ∀ j, j < n → ∃ x : Nat, w.cell? ⟨b, off + j, none⟩ = some (.int .u8 x) ∧ x < 256)

/-- Block r is a reader that has read at most N times. -/
def RdOk (w : World) (r N : Nat) : Prop :=
  ∃ (v : Value) (n p : Nat), w.heap[r]? = some (.cells #[v, .int .i64 p] 77 (0, 0)) ∧ n ≤ 2000 ∧ p ≤ N ∧ BytS w r v n

theorem RdOk.lt {w : World} {r N : Nat} (h : RdOk w r N) : r < w.heap.size := by
  obtain ⟨v, n, p, h1, _⟩ := h
  exact (Array.getElem?_eq_some_iff.1 h1).1

theorem RdOk.below {w w' : World} {r N : Nat} (h : RdOk w r N) (hb : Below w.heap.size w w') : RdOk w' r N := by
  have hr := h.lt
  obtain ⟨v, n, p, h1, h2, h3, ao, cap, h4, h5, h6, h7⟩ := h
  refine ⟨v, n, p, (hb.block r hr).trans h1, h2, h3, ao, cap, h4, h5, h6, ?_⟩
  rcases h7 with h7 | ⟨b, off, h8, h9, h10⟩
  · exact .inl h7
  · exact .inr ⟨b, off, h8, h9, fun j hj => by obtain ⟨x, hx, hl⟩ := h10 j hj; exact ⟨x, (hb.cell (p := ⟨b, off + j, none⟩) (by show b < w.heap.size; omega)).trans hx, hl⟩⟩

theorem RdOk.mono {w : World} {r N M : Nat} (h : RdOk w r N) (hm : N ≤ M) : RdOk w r M := by
  obtain ⟨v, n, p, h1, h2, h3, h4⟩ := h
  exact ⟨v, n, p, h1, h2, by omega, h4⟩

/-- Another block's turn leaves the reader. -/
theorem RdOk.grown {w w' : World} {r N g : Nat} (h : RdOk w r N) (hg : w.grownBy w' (some g)) (hr : r < g) : RdOk w' r N := by
  have hr' := h.lt
  obtain ⟨v, n, p, h1, h2, h3, ao, cap, h4, h5, h6, h7⟩ := h
  refine ⟨v, n, p, (hg.block r hr' (fun e => by injection e; omega)).trans h1, h2, h3, ao, cap, h4, h5, h6, ?_⟩
  rcases h7 with h7 | ⟨b, off, h8, h9, h10⟩
  · exact .inl h7
  · exact .inr ⟨b, off, h8, h9, fun j hj => by obtain ⟨x, hx, hl⟩ := h10 j hj; exact ⟨x, (World.cell?_of_block (w := w) (a := ⟨b, off + j, none⟩) (hg.block b (by omega) (fun e => by injection e; omega))).trans hx, hl⟩⟩

theorem modI (k n : Nat) : ((k : Int) % (n : Int)) = ((k % n : Nat) : Int) := by simp

theorem pick_xor (X m : Nat) (hX : X < 4611686018427387904) (hm : 1 ≤ m) : ∃ k : Nat, k < m ∧ bits .xor .i64 (X : Int) ((X : Int) / 64) % (m : Int) = (k : Int) ∧ 0 ≤ bits .xor .i64 (X : Int) ((X : Int) / 64) := by
  have h1 : ((X : Int) / 64) = ((X / 64 : Nat) : Int) := by simp
  rw [h1, xor_i64 X (X / 64) (by omega) (by omega)]
  exact ⟨(X ^^^ X / 64) % m, Nat.mod_lt _ (by omega), by simp, by omega⟩

set_option maxRecDepth 100000 in
set_option maxHeartbeats 1000000 in
theorem spec_pick (r N m : Nat) (w : World) (h : RdOk w r N) (hN : N ≤ 1000000) (hm : 1 ≤ m) (hm2 : m ≤ 1000000) :
    Calls Try.prog 78 #[.pointer (some ⟨r, 0, none⟩), .int .i64 m] w fun e w' => ∃ k : Nat, e = .returned (.int .i64 k) ∧ k < m ∧ RdOk w' r (N + 1) ∧ w.grownBy w' (some r) := by
  obtain ⟨v, n, p, h1, h2, h3, ao, cap, rfl, h5, h6, h7⟩ := id h
  have c0 : w.cell? ⟨r, 0, none⟩ = some (.slice ao n cap) := (blk_cell h1 0).trans rfl
  have c1 : w.cell? ⟨r, 1, none⟩ = some (.int .i64 p) := (blk_cell h1 1).trans rfl
  have f1 : w.frozen? ⟨r, 1, none⟩ = false := blk_frozen h1 1
  have ep : ((p : Int) + 1) = ((p + 1 : Nat) : Int) := by omega
  have hset := blk_set h1 1 (.int .i64 ((p : Int) + 1))
  have hG := hidI (grown_setCell w r 1 (.int .i64 ((p : Int) + 1)))
  have hrl := h.lt
  have hR : RdOk (w.setCell ⟨r, 1, none⟩ (.int .i64 ((p : Int) + 1))) r (N + 1) := by
    refine ⟨.slice ao n cap, n, p + 1, by rw [← ep]; exact hset, h2, by omega, ao, cap, rfl, h5, h6, ?_⟩
    rcases h7 with h7 | ⟨b, off, h8, h9, h10⟩
    · exact .inl h7
    · exact .inr ⟨b, off, h8, h9, fun j hj => by obtain ⟨x, hx, hl⟩ := h10 j hj; exact ⟨x, (World.cell?_of_block (w := w) (a := ⟨b, off + j, none⟩) (hG.out.block b (by omega) (fun e => by injection e; omega))).trans hx, hl⟩⟩
  have HR := hidI hR; clear hR hset h ep
  unfold maxLen at h6
  have hm0 : decide ((m : Int) < 1) = false := decide_eq_false (by omega)
  have hm1 : (1 : Int) ≤ m := by omega
  rcases Nat.eq_zero_or_pos n with rfl | hn
  · clear h7
    go_enter Try.func78, Try.ntmps78
    go_wp2_with fail
    go_ret
    exact ⟨0, rfl, by omega, HR.out, hG.out⟩
  rcases h7 with h7 | ⟨b, off, rfl, h9, h10⟩
  · omega
  have hbr : b < w.heap.size := by omega
  have h11 : ∀ j, j < n → ∃ x : Nat, (w.setCell ⟨r, 1, none⟩ (.int .i64 ((p : Int) + 1))).cell? ⟨b, off + j, none⟩ = some (.int .u8 x) ∧ x < 256 := fun j hj => by
    obtain ⟨x, hx, hx2⟩ := h10 j hj
    exact ⟨x, (World.cell?_of_block (w := w) (a := ⟨b, off + j, none⟩) (hG.out.block b hbr (fun e => by injection e; omega))).trans hx, hx2⟩
  have hn0 : ((n : Int) == 0) = false := by simp; omega
  clear h10 h1
  by_cases hp : p < n
  · obtain ⟨x, hx, hx2⟩ := h11 p hp
    have hxm : x % m < m := Nat.mod_lt _ hm
    clear h11
    go_enter Try.func78, Try.ntmps78
    go_wp2_with fail
    go_ret
    exact ⟨x % m, by simp, hxm, HR.out, hG.out⟩
  · obtain ⟨x, hx, hx2⟩ := h11 (p % n) (Nat.mod_lt _ hn)
    obtain ⟨y, hy, hy2⟩ := h11 ((p * 7 + 3) % n) (Nat.mod_lt _ hn)
    have hpn : n ≤ p := by omega
    have hdv : p / n ≤ p := Nat.div_le_self _ _
    have hd1 : (p : Int) / n ≤ p := Int.ediv_le_self _ (by omega)
    have hd2 : 0 ≤ (p : Int) / n := Int.ediv_nonneg (by omega) (by omega)
    have HD := hidI (show (p : Int) / n = ((p / n : Nat) : Int) by simp)
    have hq1 : ((p * 7 + 3) % n : Nat) < n := Nat.mod_lt _ hn
    have hq2 : ((p : Int) * 7 + 3) % n < n := Int.emod_lt_of_pos _ (by omega)
    have hq3 : 0 ≤ ((p : Int) * 7 + 3) % n := Int.emod_nonneg _ (by omega)
    have hq4 : (p : Int) % n < n := Int.emod_lt_of_pos _ (by omega)
    have hq5 : 0 ≤ (p : Int) % n := Int.emod_nonneg _ (by omega)
    clear h11
    go_enter Try.func78, Try.ntmps78
    go_wp2_with fail
    go_region
    go_wp2_with fail
    go_ret
    obtain ⟨k, hk, he, h0⟩ := pick_xor (x * 131 + y * 1117 + p * 29 + p / n * 53) m (by omega) hm
    have hX : ((x : Int) * 131 + y * 1117 + p * 29 + (p : Int) / n * 53) = ((x * 131 + y * 1117 + p * 29 + p / n * 53 : Nat) : Int) := by rw [HD.out]; omega
    have hG' : w.grownBy (w.setCell ⟨r, 1, none⟩ (.int .i64 ((p : Int) + 1))).drew (some r) := ⟨hG.out.os, hG.out.tape, hG.out.output, hG.out.size, hG.out.block⟩
    refine ⟨k, ?_, hk, HR.out.below (Below.refl _ _).drew, hG'⟩
    rw [← he, ← hX]
    refine ret_int ?_
    rw [Int.tmod_eq_emod_of_nonneg]
    rw [hX]; exact h0

theorem spec_pickI (r N : Nat) (m : Int) (w : World) (h : RdOk w r N) (hN : N ≤ 1000000) (hm : 1 ≤ m) (hm2 : m ≤ 1000000) :
    Calls Try.prog 78 #[.pointer (some ⟨r, 0, none⟩), .int .i64 m] w fun e w' => ∃ k : Nat, e = .returned (.int .i64 k) ∧ (k : Int) < m ∧ RdOk w' r (N + 1) ∧ w.grownBy w' (some r) := by
  obtain ⟨M, rfl⟩ := Int.eq_ofNat_of_zero_le (show 0 ≤ m by omega)
  refine (spec_pick r N M w h hN (by omega) (by omega)).mono ?_
  rintro e w' ⟨k, rfl, hk, h1, h2⟩
  exact ⟨k, rfl, by omega, h1, h2⟩
end Go.Proofs.Ytmmggbcmailbiaa
