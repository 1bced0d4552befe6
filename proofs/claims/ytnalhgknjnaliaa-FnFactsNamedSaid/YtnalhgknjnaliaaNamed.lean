/- impl.FactsNamed and spec.FactsNamed. -/
import Derived.Test.YtnalhgknjnaliaaCdV
import Derived.Test.YtnalhgknjnaliaaSets
namespace Go.Proofs.Ytnalhgknjnaliaa
open Go.RowKit

def namedGo : List Int → Nat → Nat
  | [], a => a
  | s :: l, a => namedGo l (if s < 5 then a ||| 2 ^ s.toNat else a)

def factsNamed (zs : List Int) : Int := if codeValid zs then namedGo zs 0 else -1

set_option maxHeartbeats 400000 in
theorem impl_FactsNamed (zs : List Int) (v : Value) (w : World) (h : IntS w v zs) :
    Calls Try.prog 23 #[v] w fun e w' => e = .returned (.int .i64 (factsNamed zs)) ∧ w = w' := by
  have h' := h
  obtain ⟨hz, ao, cap, rfl, hcap, hmax, hcells⟩ := h
  by_cases hv : codeValid zs = true
  · rcases hcells with ⟨rfl, _⟩ | ⟨b, off, rfl, hb, hc⟩
    · exact absurd hv (by decide)
    · unfold maxLen at hmax
      have HF := hidI (show factsNamed zs = namedGo zs 0 by unfold factsNamed; rw [if_pos hv])
      have HS := hidI (fits_steps zs 0 (fits_of_valid hv).1)
      have hl40 := (fits_of_valid hv).2.2
      go_enter Try.func23, Try.ntmps23
      go_wp2_with (go_at_call 14; refine (impl_CodeValid zs _ _ h').mono ?_; rintro e w' ⟨rfl, rfl⟩)
      go_loop [3, 11] (fun s i => ∃ (k : Nat) (S : Nat), k ≤ zs.length ∧ i = .int .i64 k ∧ s = .int .i64 S ∧ Hid (namedGo zs 0 = namedGo (zs.drop k) S) ∧ S < 32) (fun _ i => zs.length - (intOf i).toNat)
      case atStart => exact ⟨0, 0, by omega, rfl, rfl, hidI rfl, by omega⟩
      case round =>
        obtain ⟨k, S, hk, rfl, rfl, HR, hS⟩ := hrel
        obtain ⟨z, Hd, Hg, HP⟩ := at_k zs k
        have hcell : k < zs.length → w.cell? ⟨b, off + k, none⟩ = some (.int .i64 z) := fun h => by rw [← Hg.out h]; exact hc k h
        clear hc hz h'
        have hz0 : k < zs.length → 0 ≤ z := fun h => (HP _ HS.out h).1
        clear HP
        go_wp2
        all_goals first
          | (go_ret
             refine ⟨ret_int ?_, rfl⟩
             rw [HF.out, HR.out, List.drop_of_length_le (by omega)]
             rfl)
          | (have hlt : k < zs.length := by assumption
             go_round
             case rel =>
               first
               | (have h5 : z < 5 := by assumption
                  obtain ⟨Z, rfl⟩ := Int.eq_ofNat_of_zero_le (hz0 hlt)
                  have hp := pow_lt63 (n := Z) (by omega)
                  refine ⟨k + 1, S ||| 2 ^ Z, by omega, by go_num, ?_, hidI ?_, ?_⟩
                  · rw [Int.toNat_natCast, shl1 (by omega), or_i64 _ _ (by omega) hp]
                  · rw [HR.out, Hd.out hlt, namedGo, if_pos h5, Int.toNat_natCast]
                  · exact Nat.or_lt_two_pow (n := 5) (by omega) (Nat.pow_lt_pow_right (by omega) (by omega)))
               | (have h5 : 5 ≤ z := by assumption
                  refine ⟨k + 1, S, by omega, by go_num, rfl, hidI ?_, hS⟩
                  rw [HR.out, Hd.out hlt, namedGo, if_neg (by omega)])
             case measure => simp [intOf]; omega)
  · have hv' : codeValid zs = false := by simpa using hv
    clear hv
    have HF := hidI (show factsNamed zs = -1 by unfold factsNamed; rw [hv']; rfl)
    go_enter Try.func23, Try.ntmps23
    go_wp2_with (go_at_call 14; refine (impl_CodeValid zs _ _ h').mono ?_; rintro e w' ⟨rfl, rfl⟩)
    go_ret
    exact ⟨ret_int HF.out.symm, rfl⟩

set_option maxHeartbeats 400000 in
theorem spec_FactsNamed (zs : List Int) (v : Value) (w : World) (h : IntS w v zs) (hlen : zs.length ≤ 4000000) :
    Calls Try.prog 24 #[v] w fun e w' => e = .returned (.int .i64 (factsNamed zs)) ∧ w = w' := by
  have h' := h
  obtain ⟨hz, ao, cap, rfl, hcap, hmax, hcells⟩ := h
  by_cases hv : codeValid zs = true
  · rcases hcells with ⟨rfl, _⟩ | ⟨b, off, rfl, hb, hc⟩
    · exact absurd hv (by decide)
    · unfold maxLen at hmax
      have HF := hidI (show factsNamed zs = namedGo zs 0 by unfold factsNamed; rw [if_pos hv])
      have HS := hidI (fits_steps zs 0 (fits_of_valid hv).1)
      have hl40 := (fits_of_valid hv).2.2
      go_enter Try.func24, Try.ntmps24
      go_wp2_with (go_at_call 31; refine (spec_CodeValid zs _ _ h' hlen).mono ?_; rintro e w' ⟨rfl, rfl⟩)
      go_loop [3, 4] (fun s i => ∃ (k : Nat) (S : Nat), k ≤ zs.length ∧ i = .int .i64 k ∧ s = .int .i64 S ∧ Hid (namedGo zs 0 = namedGo (zs.drop k) S) ∧ S < 32) (fun _ i => zs.length - (intOf i).toNat)
      case atStart => exact ⟨0, 0, by omega, rfl, rfl, hidI rfl, by omega⟩
      case round =>
        obtain ⟨k, S, hk, rfl, rfl, HR, hS⟩ := hrel
        obtain ⟨z, Hd, Hg, HP⟩ := at_k zs k
        have hcell : k < zs.length → w.cell? ⟨b, off + k, none⟩ = some (.int .i64 z) := fun h => by rw [← Hg.out h]; exact hc k h
        clear hc hz h'
        by_cases hlt : k < zs.length
        · have hz0 : 0 ≤ z := (HP _ HS.out hlt).1
          clear HP
          obtain ⟨Z, rfl⟩ := Int.eq_ofNat_of_zero_le hz0
          by_cases h5 : (Z : Int) < 5
          · have hp := pow_lt63 (n := Z) (by omega)
            have hs := shl1 (n := Z) (by omega)
            have Hor := hidI (or_lt32 hS (pow_lt32 (n := Z) (by omega)))
            have hp5 := pow_lt32 (n := Z) (by omega)
            obtain ⟨P, hP⟩ : ∃ P : Nat, P = 2 ^ Z := ⟨_, rfl⟩
            rw [← hP] at hs hp hp5
            have HP := hidI hP; clear hP
            go_wp2_with (go_at_call 48; refine (spec_l1Either S P _ (by omega) (by omega)).mono ?_; rintro e w' ⟨rfl, rfl⟩)
            go_round
            case rel => exact ⟨k + 1, S ||| P, by omega, by go_num, rfl, hidI (by rw [HR.out, Hd.out hlt, namedGo, if_pos h5, Int.toNat_natCast, HP.out]), by rw [HP.out]; exact Hor.out⟩
            case measure => simp [intOf]; omega
          · go_wp2_with fail
            go_round
            case rel => exact ⟨k + 1, S, by omega, by go_num, rfl, hidI (by rw [HR.out, Hd.out hlt, namedGo, if_neg h5]), hS⟩
            case measure => simp [intOf]; omega
        · go_wp2_with fail
          go_ret
          exact ⟨ret_int (by rw [HF.out, HR.out, List.drop_of_length_le (by omega)]; rfl), rfl⟩
  · have hv' : codeValid zs = false := by simpa using hv
    clear hv
    have HF := hidI (show factsNamed zs = -1 by unfold factsNamed; rw [hv']; rfl)
    go_enter Try.func24, Try.ntmps24
    go_wp2_with (go_at_call 31; refine (spec_CodeValid zs _ _ h' hlen).mono ?_; rintro e w' ⟨rfl, rfl⟩)
    go_ret
    exact ⟨ret_int HF.out.symm, rfl⟩
end Go.Proofs.Ytnalhgknjnaliaa
