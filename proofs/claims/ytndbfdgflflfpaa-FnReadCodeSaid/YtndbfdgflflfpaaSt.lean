/- ReadCode of the reference. -/
import Derived.Test.YtndbfdgflflfpaaSs
import Derived.Outline
namespace Go.Proofs.Ytndbfdgflflfpaa
open Go.RowKit

set_option maxRecDepth 100000 in
set_option maxHeartbeats 1000000 in
theorem spec_ReadCode (s : ByteArray) (w : World) (hs : s.size ≤ 4000000) :
    Calls Try.prog 9 #[.string s] w fun e w' => GivesS w w' (readCode (bs s)) e := by
  have OM : ∀ W : World, Hid (w.heap.size ≤ W.heap.size → (W.alloc (.cells #[] 3)).ownsRow w.heap.size 3 1 (.slice (some ⟨W.heap.size, 0, none⟩) 0 0) 0 []) := fun W => hidI (fun h => own_made rfl h _)
  have HO := hidI OM; clear OM
  by_cases hbig : 199 < s.size
  · have HF := hidI (readCode_big hbig)
    go_enter Try.func9, Try.ntmps9
    go_wp2_with fail
    go_ret2
    rw [HF.out]; exact ⟨_, rfl, (HO.out w).out (Nat.le_refl _), (Below.refl _ _).alloc (Nat.le_refl _) _⟩
  · have HC := hidI (spec_great s (by omega) 191 0 0 (by omega) (fun k w _ h2 => spec_small s (by omega) 191 k 0 w (by omega) h2) 0 w (Nat.le_refl _) (Nat.zero_le _))
    go_enter Try.func9, Try.ntmps9
    go_wp2_with fail
    refine HC.out.mono ?_; rintro e w1 ⟨v, zs, k1, ok, rfl, o1, i1, l1, s1, b1, t1, n1⟩
    obtain ⟨a1, c1, hv1⟩ := own_slice o1
    subst hv1
    have hz := b1.size
    have O1 := hidI o1; have B1 := hidI b1
    have H1 := hidI (IntS.ofOwn o1 i1).2
    have OA := hidI ((HO.out w1).out hz); have BA := hidI (b1.alloc hz (.cells #[] 3))
    cases ok
    · have HF := hidI (show readCode (bs s) = none by
        have h0 : whole 191 (bs s) = none := n1 rfl
        cases h : readCode (bs s) with
        | none => rfl
        | some zs =>
          obtain ⟨t, h1, _⟩ := (read_iff 191 (by omega) (by rw [bs_len]; omega) zs).1 h
          rw [h0] at h1; cases h1)
      clear o1 i1 b1 t1 n1 HC
      go_wp2_with fail
      go_ret2
      rw [HF.out]
      exact ⟨_, rfl, OA.out, BA.out⟩
    · obtain ⟨t, e1, e2⟩ := t1 rfl
      have E1 : Hid (whole 191 (bs s) = some (t, (bs s).drop k1)) := hidI e1
      subst e2
      by_cases hk : k1 < s.size
      · have HF := hidI (show readCode (bs s) = none by
          cases h : readCode (bs s) with
          | none => rfl
          | some zs =>
            obtain ⟨u, h1, _⟩ := (read_iff 191 (by omega) (by rw [bs_len]; omega) zs).1 h
            rw [E1.out] at h1; injection h1 with h1; injection h1 with _ h1
            have : ((bs s).drop k1).length = 0 := by rw [h1]; rfl
            rw [List.length_drop, bs_len] at this; omega)
        have hne : ((k1 : Int) != (s.size : Int)) = true := by simp; omega
        clear o1 i1 b1 t1 n1 HC e1
        go_wp2_with fail
        go_ret2
        rw [HF.out]
        exact ⟨_, rfl, OA.out, BA.out⟩
      · have E2 : Hid (whole 191 (bs s) = some (t, [])) := hidI (by rw [E1.out, List.drop_eq_nil_of_le (by rw [bs_len]; omega)])
        have hkO := hidI (whole_good 191 _ _ _ E2.out).2.1
        have HF := hidI (show readCode (bs s) = if codeValid t.steps = true then some t.steps else none by
          rw [valid_cond_iff hkO.out]
          by_cases hl : t.steps.length ≤ 40
          · rw [if_pos (by simp [hl])]
            exact (read_iff 191 (by omega) (by rw [bs_len]; omega) _).2 ⟨t, E2.out, hl, rfl⟩
          · rw [if_neg (by simp [hl])]
            cases h : readCode (bs s) with
            | none => rfl
            | some zs =>
              obtain ⟨u, h1, h2, _⟩ := (read_iff 191 (by omega) (by rw [bs_len]; omega) zs).1 h
              rw [E2.out] at h1; injection h1 with h1; injection h1 with h1 _
              subst h1; exact absurd h2 hl)
        have hne : ((k1 : Int) != (s.size : Int)) = false := by simp; omega
        have HL := hidI (show t.steps.length ≤ 4000000 by omega)
        clear o1 i1 b1 t1 n1 HC e1
        cases hv : codeValid t.steps
        · have HV := hidI hv; clear hv
          go_wp2_with (go_at_call 34; refine (spec_CodeValid t.steps _ _ H1.out HL.out).mono ?_; rintro e w' ⟨rfl, rfl⟩; rw [HV.out])
          go_ret2
          rw [HF.out, HV.out]
          exact ⟨_, rfl, OA.out, BA.out⟩
        · have HV := hidI hv; clear hv
          go_wp2_with (go_at_call 34; refine (spec_CodeValid t.steps _ _ H1.out HL.out).mono ?_; rintro e w' ⟨rfl, rfl⟩; rw [HV.out])
          go_ret2
          rw [HF.out, HV.out]
          exact ⟨_, rfl, O1.out, B1.out⟩
end Go.Proofs.Ytndbfdgflflfpaa
