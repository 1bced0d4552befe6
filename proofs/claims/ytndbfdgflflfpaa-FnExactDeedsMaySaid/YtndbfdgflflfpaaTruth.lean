/- CodeRun and CodeTruth, of the program and of the reference. -/
import Derived.Test.YtndbfdgflflfpaaRunS
import Derived.Outline
namespace Go.Proofs.Ytndbfdgflflfpaa
open Go.RowKit

theorem impl_stateOk (n : Int) (w : World) :
    Calls Try.prog 44 #[.int .i64 n] w fun e w' => e = .returned (.bool (decide (0 ≤ n ∧ n < 32))) ∧ w = w' := by
  go_enter Try.func44, Try.ntmps44
  go_wp2
  all_goals go_ret
  all_goals exact ⟨ret_bool (by first | (simp; omega) | (simp; done) | rfl), rfl⟩

def codeRun (zs : List Int) (n : Int) : Bool := codeValid zs && decide (0 ≤ n ∧ n < 32) && runAll zs n.toNat

theorem impl_CodeRun (zs : List Int) (n : Int) (v : Value) (w : World) (h : IntS w v zs) :
    Calls Try.prog 24 #[v, .int .i64 n] w fun e w' => e = .returned (.bool (codeRun zs n)) ∧ Below w.heap.size w w' := by
  cases hv : codeValid zs
  · have HF := hidI (show codeRun zs n = false by unfold codeRun; rw [hv]; rfl)
    have HV := hidI hv; clear hv
    go_enter Try.func24, Try.ntmps24
    go_wp2_with (go_at_call 28; refine (impl_CodeValid zs _ _ h).mono ?_; rintro e w' ⟨rfl, rfl⟩; rw [HV.out])
    go_ret
    exact ⟨ret_bool HF.out.symm, Below.refl _ _⟩
  · cases hn : decide (0 ≤ n ∧ n < 32)
    · have HF := hidI (show codeRun zs n = false by unfold codeRun; rw [hv, hn]; rfl)
      have HV := hidI hv; clear hv
      have HN := hidI hn; clear hn
      go_enter Try.func24, Try.ntmps24
      go_wp2_with (first | (go_at_call 28; refine (impl_CodeValid zs _ _ h).mono ?_; rintro e w' ⟨rfl, rfl⟩; rw [HV.out]) | (go_at_call 44; refine (impl_stateOk n _).mono ?_; rintro e w' ⟨rfl, rfl⟩; rw [HN.out]))
      go_ret
      exact ⟨ret_bool HF.out.symm, Below.refl _ _⟩
    · obtain ⟨S, rfl⟩ := Int.eq_ofNat_of_zero_le (show 0 ≤ n by simpa using (of_decide_eq_true hn).1)
      have hS : S < 32 := by have := (of_decide_eq_true hn).2; omega
      have HF := hidI (show codeRun zs S = runAll zs S by unfold codeRun; rw [hv, hn]; rfl)
      have HFit := hidI (fits_of_valid hv)
      have HV := hidI hv; clear hv
      have HN := hidI hn; clear hn
      go_enter Try.func24, Try.ntmps24
      go_wp2_with (first | (go_at_call 28; refine (impl_CodeValid zs _ _ h).mono ?_; rintro e w' ⟨rfl, rfl⟩; rw [HV.out]) | (go_at_call 44; refine (impl_stateOk S _).mono ?_; rintro e w' ⟨rfl, rfl⟩; rw [HN.out]) | (go_at_call 53; refine (impl_runCode zs S _ _ h HFit.out.1 HFit.out.2.2 hS).mono ?_; rintro e w' ⟨rfl, hb⟩))
      go_ret
      exact ⟨ret_bool HF.out.symm, by assumption⟩

theorem spec_CodeRun (zs : List Int) (n : Int) (v : Value) (w : World) (h : IntS w v zs) (hlen : zs.length ≤ 4000000) :
    Calls Try.prog 33 #[v, .int .i64 n] w fun e w' => e = .returned (.bool (codeRun zs n)) ∧ Below w.heap.size w w' := by
  cases hv : codeValid zs
  · have HF := hidI (show codeRun zs n = false by unfold codeRun; rw [hv]; rfl)
    have HV := hidI hv; clear hv
    go_enter Try.func33, Try.ntmps33
    go_wp2_with (go_at_call 34; refine (spec_CodeValid zs _ _ h hlen).mono ?_; rintro e w' ⟨rfl, rfl⟩; rw [HV.out])
    go_ret
    exact ⟨ret_bool HF.out.symm, Below.refl _ _⟩
  · cases hn : decide (0 ≤ n ∧ n < 32)
    · have HF := hidI (show codeRun zs n = false by unfold codeRun; rw [hv, hn]; rfl)
      have HV := hidI hv; clear hv
      have hn' : n < 0 ∨ 31 < n := by have := of_decide_eq_false hn; omega
      have HN := hidI hn'; clear hn hn'
      go_enter Try.func33, Try.ntmps33
      go_wp2_with (first | (go_at_call 34; refine (spec_CodeValid zs _ _ h hlen).mono ?_; rintro e w' ⟨rfl, rfl⟩; rw [HV.out]) | (go_at_call 52; refine (spec_l1In' n _ _ _ HN.out).mono ?_; rintro e w' ⟨rfl, rfl⟩))
      go_ret
      exact ⟨ret_bool HF.out.symm, Below.refl _ _⟩
    · obtain ⟨S, rfl⟩ := Int.eq_ofNat_of_zero_le (show 0 ≤ n by simpa using (of_decide_eq_true hn).1)
      have hS : S < 32 := by have := (of_decide_eq_true hn).2; omega
      have HF := hidI (show codeRun zs S = runAll zs S by unfold codeRun; rw [hv, hn]; rfl)
      have HFit := hidI (fits_of_valid hv)
      have HV := hidI hv; clear hv
      clear hn
      go_enter Try.func33, Try.ntmps33
      go_wp2_with (first | (go_at_call 34; refine (spec_CodeValid zs _ _ h hlen).mono ?_; rintro e w' ⟨rfl, rfl⟩; rw [HV.out]) | (go_at_call 52; refine (spec_l1In S _ _ _ (by omega)).mono ?_; rintro e w' ⟨rfl, rfl⟩) | (go_at_call 61; refine (spec_l5Run zs S _ _ h HFit.out.1 HFit.out.2.2 hS).mono ?_; rintro e w' ⟨rfl, hb⟩))
      go_ret
      exact ⟨ret_bool HF.out.symm, by assumption⟩

/-- The states below k for which a code leaves yes. -/
def truthTo (zs : List Int) : Nat → Nat
  | 0 => 0
  | k + 1 => truthTo zs k + if runAll zs k then 2 ^ k else 0

theorem truthTo_lt (zs : List Int) : ∀ k, truthTo zs k < 2 ^ k
  | 0 => by simp [truthTo]
  | k + 1 => by have := truthTo_lt zs k; rw [truthTo, Nat.pow_succ]; split <;> omega

theorem or_pow {x k : Nat} (h : x < 2 ^ k) : x ||| 2 ^ k = x + 2 ^ k := by
  have h1 := or_add_and x x (2 ^ k) (Nat.le_refl _)
  rw [nat_bit, Nat.div_eq_of_lt h] at h1
  omega

theorem truthTo_testBit (zs : List Int) : ∀ k s, (truthTo zs k).testBit s = (decide (s < k) && runAll zs s)
  | 0, s => by simp [truthTo]
  | k + 1, s => by
    have ih := truthTo_testBit zs k s
    have hlt := truthTo_lt zs k
    rw [truthTo]
    by_cases hr : runAll zs k = true
    · rw [if_pos hr, ← or_pow hlt, Nat.testBit_or, ih, Nat.testBit_two_pow]
      by_cases e : s = k
      · subst e; simp [hr]
      · have : decide (s < k + 1) = decide (s < k) := by rw [decide_eq_decide]; omega
        rw [this]; simp [Ne.symm e]
    · rw [if_neg hr, Nat.add_zero, ih]
      by_cases e : s = k
      · subst e; simp at hr; simp [hr]
      · have : decide (s < k + 1) = decide (s < k) := by rw [decide_eq_decide]; omega
        rw [this]

def codeTruth (zs : List Int) : Int := if codeValid zs then truthTo zs 32 else -1

theorem truthTo_small (zs : List Int) {k : Nat} (h : k ≤ 32) : truthTo zs k < 4294967296 := Nat.lt_of_lt_of_le (truthTo_lt zs k) (Nat.pow_le_pow_right (n := 2) (by decide) h)

set_option maxHeartbeats 400000 in
theorem impl_CodeTruth (zs : List Int) (v : Value) (w : World) (h : IntS w v zs) :
    Calls Try.prog 35 #[v] w fun e w' => e = .returned (.int .i64 (codeTruth zs)) ∧ Below w.heap.size w w' := by
  cases hv : codeValid zs
  · have HF := hidI (show codeTruth zs = -1 by unfold codeTruth; rw [hv]; rfl)
    have HV := hidI hv; clear hv
    go_enter Try.func35, Try.ntmps35
    go_wp2_with (go_at_call 28; refine (impl_CodeValid zs _ _ h).mono ?_; rintro e w' ⟨rfl, rfl⟩; rw [HV.out])
    go_ret
    exact ⟨ret_int HF.out.symm, Below.refl _ _⟩
  · have HF := hidI (show codeTruth zs = truthTo zs 32 by unfold codeTruth; rw [hv]; rfl)
    have HFit := hidI (fits_of_valid hv)
    have HV := hidI hv; clear hv
    go_enter Try.func35, Try.ntmps35
    go_wp2_with (go_at_call 28; refine (impl_CodeValid zs _ _ h).mono ?_; rintro e w' ⟨rfl, rfl⟩; rw [HV.out])
    go_loopw [3, 8] (fun s i wr => ∃ k T : Nat, k ≤ 32 ∧ i = .int .i64 k ∧ s = .int .i64 T ∧ Hid (T = truthTo zs k) ∧ Below w.heap.size w wr) (fun _ i _ => 32 - (intOf i).toNat)
    case atStart => exact ⟨0, 0, by omega, rfl, rfl, hidI rfl, Below.refl _ _⟩
    case round =>
      obtain ⟨k, T, hk, rfl, rfl, HT, hbel⟩ := hrel
      by_cases hlt : k < 32
      · have hs := shl1 (n := k) (by omega)
        have hp := pow_lt2_32 hlt
        have hT : T < 4294967296 := by rw [HT.out]; exact truthTo_small zs hk
        have Hor := hidI (or_pow (truthTo_lt zs k))
        obtain ⟨P, hP⟩ : ∃ P : Nat, P = 2 ^ k := ⟨_, rfl⟩
        rw [← hP] at hs hp
        have HP := hidI hP; clear hP
        have hor := or_i64 T P (by omega) (by omega)
        cases hr : runAll zs k
        all_goals
          have HR := hidI hr; clear hr
          go_wp2_with (go_at_call 53; refine (impl_runCode zs k _ _ (h.below hbel) HFit.out.1 HFit.out.2.2 hlt).mono ?_; rintro e w' ⟨rfl, hb⟩; rw [HR.out])
          go_roundw
          case rel => exact ⟨k + 1, _, by omega, by go_num, rfl, hidI (by first | rw [truthTo, HR.out, if_pos rfl, ← Hor.out, HP.out, HT.out] | (rw [truthTo, HR.out, HT.out]; rfl)), bthen hbel (by assumption)⟩
          case measure => simp [intOf]; omega
      · obtain rfl : k = 32 := by omega
        go_wp2_with fail
        go_ret
        exact ⟨ret_int (by rw [HF.out, HT.out]), hbel⟩


end Go.Proofs.Ytndbfdgflflfpaa
