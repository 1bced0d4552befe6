/- ReadCode of the program. -/
import Derived.Test.YtndbfdgflflfpaaRp
import Derived.Test.YtndbfdgflflfpaaCdV
namespace Go.Proofs.Ytndbfdgflflfpaa
open Go.RowKit

theorem readCode_big {s : ByteArray} (h : 199 < s.size) : readCode (bs s) = none := by
  unfold readCode; rw [if_neg (by rw [bs_len]; omega)]

theorem readCode_no {s : ByteArray} (h : s.size ≤ 199) (hw : ∀ t, whole 200 (bs s) ≠ some (t, [])) : readCode (bs s) = none := by
  unfold readCode
  rw [if_pos (by rw [bs_len]; exact h)]
  split
  · rename_i t e; exact absurd e (hw t)
  · rfl

theorem readCode_yes {s : ByteArray} (h : s.size ≤ 199) {t : Cond} (hw : whole 200 (bs s) = some (t, [])) : readCode (bs s) = if codeValid t.steps = true then some t.steps else none := by
  have hk := (whole_good 200 _ _ _ hw).2.1
  unfold readCode
  rw [if_pos (by rw [bs_len]; exact h), hw]
  dsimp only
  rw [valid_cond_iff hk]
  by_cases hl : t.steps.length ≤ 40 <;> simp [hl]

set_option maxRecDepth 100000 in
set_option maxHeartbeats 1000000 in
theorem impl_ReadCode (s : ByteArray) (w : World) (hs : s.size ≤ 4000000) :
    Calls Try.prog 10 #[.string s] w fun e w' => GivesS w w' (readCode (bs s)) e := by
  by_cases hbig : 199 < s.size
  · have HF := hidI (readCode_big hbig)
    go_enter Try.func10, Try.ntmps10
    go_wp2_with fail
    go_ret2
    rw [HF.out]; exact GivesS.none _
  · obtain ⟨W, hW⟩ : ∃ W, W = w.alloc (.cells #[.string s, .int .i64 0] 59) := ⟨_, rfl⟩
    have hR : RB W w.heap.size s 0 := by rw [hW]; exact heap_alloc_new _ _
    have bb : Below w.heap.size w W := by rw [hW]; exact (Below.refl w.heap.size w).alloc (Nat.le_refl _) _
    have HR := hidI hR
    have HB := hidI bb
    have HW := hidI (show W.heap.size = w.heap.size + 1 by rw [hW]; simp)
    have HC := hidI (impl_readWhole s (by omega) 200 (by omega) w.heap.size W hR)
    clear hR bb
    go_enter Try.func10, Try.ntmps10
    go_wp2_with fail
    rw [← hW]; clear hW
    refine HC.out.mono ?_; rintro e w1 ⟨v, zs, k1, ok, rfl, o1, i1, l1, s1, r1, g1, t1, n1⟩
    obtain ⟨a1, c1, hv1⟩ := own_slice o1
    subst hv1
    have B1 : Hid (Below w.heap.size w w1) := hidI (by
      obtain ⟨q1, q2, q3, q4, q5⟩ := g1
      obtain ⟨p1, p2, p3, p4, p5⟩ := HB.out
      exact ⟨q1.trans p1, q2.trans p2, q3.trans p3, Nat.le_trans p4 q4, fun i hi => (q5 i (by have := HW.out; omega) (by intro e; injection e with e; omega)).trans (p5 i hi)⟩)
    have c10 : w1.cell? ⟨w.heap.size, 1, none⟩ = some (.int .i64 (k1 : Int)) := (blk_cell r1 1).trans rfl
    have O1 := hidI (own_base o1 (base' := w.heap.size) (by have := HW.out; omega))
    have H1 := hidI (IntS.ofOwn o1 i1).2
    cases ok
    · have HF := hidI (readCode_no (s := s) (by omega) (fun t h => by have h2 : whole 200 (bs s) = none := n1 rfl; rw [h2] at h; cases h))
      clear o1 i1 r1 g1 t1 n1 HC
      go_wp2_with fail
      go_ret2
      rw [HF.out]
      exact ⟨_, rfl, World.ownsRow_nil _ _ _ _, B1.out⟩
    · obtain ⟨t, e1, e2⟩ := t1 rfl
      have E1 : Hid (whole 200 (bs s) = some (t, (bs s).drop k1)) := hidI e1
      subst e2
      by_cases hk : k1 < s.size
      · have HF := hidI (readCode_no (s := s) (by omega) (fun u h => by
          rw [E1.out] at h; injection h with h; injection h with _ h
          have : ((bs s).drop k1).length = 0 := by rw [h]; rfl
          rw [List.length_drop, bs_len] at this; omega))
        clear o1 i1 r1 g1 t1 n1 HC e1
        go_wp2_with fail
        go_ret2
        rw [HF.out]
        exact ⟨_, rfl, World.ownsRow_nil _ _ _ _, B1.out⟩
      · have HF := hidI (readCode_yes (s := s) (t := t) (by omega) (by rw [E1.out, List.drop_eq_nil_of_le (by rw [bs_len]; omega)]))
        have hk2 : s.size = k1 := by omega
        have hk3 := hidI hk2
        have hk4 : (s.size : Int) ≤ (k1 : Int) := by omega
        clear o1 i1 r1 g1 t1 n1 HC e1 hk2
        cases hv : codeValid t.steps
        · have HV := hidI hv; clear hv
          go_wp2_with (go_at_call 28; refine (impl_CodeValid t.steps _ _ H1.out).mono ?_; rintro e w' ⟨rfl, rfl⟩; rw [HV.out])
          go_ret2
          rw [HF.out, HV.out]
          exact ⟨_, rfl, World.ownsRow_nil _ _ _ _, B1.out⟩
        · have HV := hidI hv; clear hv
          go_wp2_with (go_at_call 28; refine (impl_CodeValid t.steps _ _ H1.out).mono ?_; rintro e w' ⟨rfl, rfl⟩; rw [HV.out])
          go_ret2
          rw [HF.out, HV.out]
          exact ⟨_, rfl, O1.out, B1.out⟩
end Go.Proofs.Ytndbfdgflflfpaa
