/- impl.FactsNamed and spec.FactsNamed. -/
import Derived.Test.YtfofjghcofjojaaCdS
import Derived.Test.YtfofjghcofjojaaSets
import Derived.Outline
namespace Go.Proofs.Ytfofjghcofjojaa
open Go.RowKit

theorem cdGo_pos : ∀ (l : List Int) (d m : Int), 0 ≤ d → d ≤ m → cdGo l d m = -1 ∨ 0 < cdGo l d m ∧ cdGo l d m ≤ m + l.length
  | [], d, m, h0, h1 => by unfold cdGo; split <;> simp <;> omega
  | s :: l, d, m, h0, h1 => by
    have hl : (s :: l).length = l.length + 1 := rfl
    have key : ∀ d', 0 ≤ d' → d' ≤ d + 1 → cdGo l d' (if m < d' then d' else m) = -1 ∨ 0 < cdGo l d' (if m < d' then d' else m) ∧ cdGo l d' (if m < d' then d' else m) ≤ m + (s :: l).length := by
      intro d' a b
      obtain ⟨M, hM, h2, h3⟩ : ∃ M, M = (if m < d' then d' else m) ∧ d' ≤ M ∧ M ≤ m + 1 := ⟨_, rfl, by split <;> omega, by split <;> omega⟩
      rw [← hM]
      rcases cdGo_pos l d' M a h2 with e | e
      · exact .inl e
      · right; omega
    unfold cdGo
    by_cases c1 : s < 0 ∨ 9 < s
    · rw [if_pos c1]; left; rfl
    · rw [if_neg c1]
      by_cases c2 : s ≤ 6
      · rw [if_pos c2]; exact key _ (by omega) (by omega)
      · rw [if_neg c2]
        by_cases c3 : s = 7
        · rw [if_pos c3]
          by_cases c4 : d < 1
          · rw [if_pos c4]; left; rfl
          · rw [if_neg c4]; exact key _ (by omega) (by omega)
        · rw [if_neg c3]
          by_cases c4 : d < 2
          · rw [if_pos c4]; left; rfl
          · rw [if_neg c4]; exact key _ (by omega) (by omega)

theorem codeDepth_pos (zs : List Int) : codeDepth zs = -1 ∨ 0 < codeDepth zs ∧ codeDepth zs ≤ 40 := by
  unfold codeDepth
  by_cases h : zs.length < 1 ∨ 40 < zs.length
  · rw [if_pos h]; exact .inl rfl
  · rw [if_neg h]
    rcases cdGo_pos zs 0 0 (by omega) (by omega) with e | e
    · exact .inl e
    · right; omega

def codeValid (zs : List Int) : Bool := decide (codeDepth zs ≠ -1)

theorem impl_CodeValid (zs : List Int) (v : Value) (w : World) (h : IntS w v zs) :
    Calls Try.prog 20 #[v] w fun e w' => e = .returned (.bool (codeValid zs)) ∧ w = w' := by
  go_enter Try.func20, Try.ntmps20
  go_wp2_with (go_at_call 17; refine (impl_CodeDepth zs _ _ h).mono ?_; rintro e w' ⟨rfl, rfl⟩)
  go_ret
  exact ⟨ret_bool (by unfold codeValid; by_cases hh : codeDepth zs = -1 <;> simp [hh]), rfl⟩

theorem spec_CodeValid (zs : List Int) (v : Value) (w : World) (h : IntS w v zs) (hlen : zs.length ≤ 1048600) :
    Calls Try.prog 19 #[v] w fun e w' => e = .returned (.bool (codeValid zs)) ∧ w = w' := by
  have HP := hidI (codeDepth_pos zs)
  go_enter Try.func19, Try.ntmps19
  go_wp2_with (go_at_call 15; refine (spec_CodeDepth zs _ _ h hlen).mono ?_; rintro e w' ⟨rfl, rfl⟩)
  go_ret
  exact ⟨ret_bool (by unfold codeValid; have := HP.out; rw [decide_eq_decide]; omega), rfl⟩

/-- The code finds at each step what it takes, from d entries on, and leaves one. -/
def fits : List Int → Nat → Prop
  | [], d => d = 1
  | s :: l, d => 0 ≤ s ∧ s ≤ 9 ∧ (s ≤ 6 → fits l (d + 1)) ∧ (s = 7 → 1 ≤ d ∧ fits l d) ∧ (8 ≤ s → 2 ≤ d ∧ fits l (d - 1))

theorem fits_of_cdGo : ∀ (l : List Int) (d : Nat) (m : Int), cdGo l d m ≠ -1 → fits l d
  | [], d, m, h => by
    unfold cdGo at h; unfold fits
    by_cases h1 : (d : Int) = 1
    · omega
    · rw [if_neg h1] at h; exact absurd rfl h
  | s :: l, d, m, h => by
    unfold cdGo at h; unfold fits
    by_cases c1 : s < 0 ∨ 9 < s
    · rw [if_pos c1] at h; exact absurd rfl h
    · rw [if_neg c1] at h
      refine ⟨by omega, by omega, fun c2 => ?_, fun c3 => ?_, fun c4 => ?_⟩
      · rw [if_pos c2] at h; exact fits_of_cdGo l (d + 1) _ h
      · rw [if_neg (by omega), if_pos c3] at h
        by_cases c5 : (d : Int) < 1
        · rw [if_pos c5] at h; exact absurd rfl h
        · rw [if_neg c5] at h; exact ⟨by omega, fits_of_cdGo l d _ h⟩
      · rw [if_neg (by omega), if_neg (by omega)] at h
        by_cases c5 : (d : Int) < 2
        · rw [if_pos c5] at h; exact absurd rfl h
        · rw [if_neg c5, show (d : Int) - 1 = ((d - 1 : Nat) : Int) by omega] at h; exact ⟨by omega, fits_of_cdGo l (d - 1) _ h⟩

theorem fits_of_valid {zs : List Int} (h : codeValid zs = true) : fits zs 0 ∧ 1 ≤ zs.length ∧ zs.length ≤ 40 := by
  unfold codeValid codeDepth at h
  by_cases c : zs.length < 1 ∨ 40 < zs.length
  · rw [if_pos c] at h; exact absurd h (by decide)
  · rw [if_neg c] at h; exact ⟨fits_of_cdGo zs 0 0 (by simpa using h), by omega, by omega⟩

theorem fits_steps : ∀ (l : List Int) (d : Nat), fits l d → ∀ s ∈ l, 0 ≤ s ∧ s ≤ 9
  | [], _, _, s, hs => by cases hs
  | a :: l, d, h, s, hs => by
    unfold fits at h
    obtain ⟨h0, h9, h1, h2, h3⟩ := h
    cases hs with
    | head => exact ⟨h0, h9⟩
    | tail _ hs =>
      by_cases c1 : a ≤ 6
      · exact fits_steps l _ (h1 c1) s hs
      · by_cases c2 : a = 7
        · exact fits_steps l _ (h2 c2).2 s hs
        · exact fits_steps l _ (h3 (by omega)).2 s hs

def namedGo : List Int → Nat → Nat
  | [], a => a
  | s :: l, a => namedGo l (if s < 5 then a ||| 2 ^ s.toNat else a)

def factsNamed (zs : List Int) : Int := if codeValid zs then namedGo zs 0 else -1

set_option maxHeartbeats 400000 in
theorem impl_FactsNamed (zs : List Int) (v : Value) (w : World) (h : IntS w v zs) :
    Calls Try.prog 22 #[v] w fun e w' => e = .returned (.int .i64 (factsNamed zs)) ∧ w = w' := by
  have h' := h
  obtain ⟨hz, ao, cap, rfl, hcap, hmax, hcells⟩ := h
  by_cases hv : codeValid zs = true
  · rcases hcells with rfl | ⟨b, off, rfl, hb, hc⟩
    · exact absurd hv (by decide)
    · unfold maxLen at hmax
      have HF := hidI (show factsNamed zs = namedGo zs 0 by unfold factsNamed; rw [if_pos hv])
      have HS := hidI (fits_steps zs 0 (fits_of_valid hv).1)
      have hl40 := (fits_of_valid hv).2.2
      go_enter Try.func22, Try.ntmps22
      go_wp2_with (go_at_call 20; refine (impl_CodeValid zs _ _ h').mono ?_; rintro e w' ⟨rfl, rfl⟩)
      go_loop [3, 11] (fun s i => ∃ (k : Nat) (S : Nat), k ≤ zs.length ∧ i = .int .i64 k ∧ s = .int .i64 S ∧ Hid (namedGo zs 0 = namedGo (zs.drop k) S) ∧ S < 32) (fun _ i => zs.length - (intOf i).toNat)
      case atStart => exact ⟨0, 0, by omega, rfl, rfl, hidI rfl, by omega⟩
      case round =>
        obtain ⟨k, S, hk, rfl, rfl, HR, hS⟩ := hrel
        obtain ⟨z, Hd, Hg, HP⟩ := at_k zs k
        have hcell : k < zs.length → w.cell? ⟨b, off + k, none⟩ = some (.int .i64 z) := fun h => by rw [← Hg.out h]; exact hc k h
        clear hc hz h'
        have hz0 : k < zs.length → 0 ≤ z := fun h => (HP _ HS.out h).1
        clear HP
        go_wp2
        all_goals first
          | (go_ret
             refine ⟨ret_int ?_, rfl⟩
             rw [HF.out, HR.out, List.drop_of_length_le (by omega)]
             rfl)
          | (have hlt : k < zs.length := by assumption
             go_round
             case rel =>
               first
               | (have h5 : z < 5 := by assumption
                  obtain ⟨Z, rfl⟩ := Int.eq_ofNat_of_zero_le (hz0 hlt)
                  have hp := pow_lt63 (n := Z) (by omega)
                  refine ⟨k + 1, S ||| 2 ^ Z, by omega, by go_num, ?_, hidI ?_, ?_⟩
                  · rw [Int.toNat_natCast, shl1 (by omega), or_i64 _ _ (by omega) hp]
                  · rw [HR.out, Hd.out hlt, namedGo, if_pos h5, Int.toNat_natCast]
                  · exact Nat.or_lt_two_pow (n := 5) (by omega) (Nat.pow_lt_pow_right (by omega) (by omega)))
               | (have h5 : 5 ≤ z := by assumption
                  refine ⟨k + 1, S, by omega, by go_num, rfl, hidI ?_, hS⟩
                  rw [HR.out, Hd.out hlt, namedGo, if_neg (by omega)])
             case measure => simp [intOf]; omega)
  · have hv' : codeValid zs = false := by simpa using hv
    clear hv
    have HF := hidI (show factsNamed zs = -1 by unfold factsNamed; rw [hv']; rfl)
    go_enter Try.func22, Try.ntmps22
    go_wp2_with (go_at_call 20; refine (impl_CodeValid zs _ _ h').mono ?_; rintro e w' ⟨rfl, rfl⟩)
    go_ret
    exact ⟨ret_int HF.out.symm, rfl⟩

set_option maxHeartbeats 400000 in
theorem spec_FactsNamed (zs : List Int) (v : Value) (w : World) (h : IntS w v zs) (hlen : zs.length ≤ 1048600) :
    Calls Try.prog 21 #[v] w fun e w' => e = .returned (.int .i64 (factsNamed zs)) ∧ w = w' := by
  have h' := h
  obtain ⟨hz, ao, cap, rfl, hcap, hmax, hcells⟩ := h
  by_cases hv : codeValid zs = true
  · rcases hcells with rfl | ⟨b, off, rfl, hb, hc⟩
    · exact absurd hv (by decide)
    · unfold maxLen at hmax
      have HF := hidI (show factsNamed zs = namedGo zs 0 by unfold factsNamed; rw [if_pos hv])
      have HS := hidI (fits_steps zs 0 (fits_of_valid hv).1)
      have hl40 := (fits_of_valid hv).2.2
      go_enter Try.func21, Try.ntmps21
      go_wp2_with (go_at_call 19; refine (spec_CodeValid zs _ _ h' hlen).mono ?_; rintro e w' ⟨rfl, rfl⟩)
      go_loop [3, 4] (fun s i => ∃ (k : Nat) (S : Nat), k ≤ zs.length ∧ i = .int .i64 k ∧ s = .int .i64 S ∧ Hid (namedGo zs 0 = namedGo (zs.drop k) S) ∧ S < 32) (fun _ i => zs.length - (intOf i).toNat)
      case atStart => exact ⟨0, 0, by omega, rfl, rfl, hidI rfl, by omega⟩
      case round =>
        obtain ⟨k, S, hk, rfl, rfl, HR, hS⟩ := hrel
        obtain ⟨z, Hd, Hg, HP⟩ := at_k zs k
        have hcell : k < zs.length → w.cell? ⟨b, off + k, none⟩ = some (.int .i64 z) := fun h => by rw [← Hg.out h]; exact hc k h
        clear hc hz h'
        by_cases hlt : k < zs.length
        · have hz0 : 0 ≤ z := (HP _ HS.out hlt).1
          clear HP
          obtain ⟨Z, rfl⟩ := Int.eq_ofNat_of_zero_le hz0
          by_cases h5 : (Z : Int) < 5
          · have hp := pow_lt63 (n := Z) (by omega)
            have hs := shl1 (n := Z) (by omega)
            have Hor := hidI (or_lt32 hS (pow_lt32 (n := Z) (by omega)))
            have hp5 := pow_lt32 (n := Z) (by omega)
            obtain ⟨P, hP⟩ : ∃ P : Nat, P = 2 ^ Z := ⟨_, rfl⟩
            rw [← hP] at hs hp hp5
            have HP := hidI hP; clear hP
            go_wp2_with (go_at_call 51; refine (spec_l1Either S P _ (by omega) (by omega)).mono ?_; rintro e w' ⟨rfl, rfl⟩)
            go_round
            case rel => exact ⟨k + 1, S ||| P, by omega, by go_num, rfl, hidI (by rw [HR.out, Hd.out hlt, namedGo, if_pos h5, Int.toNat_natCast, HP.out]), by rw [HP.out]; exact Hor.out⟩
            case measure => simp [intOf]; omega
          · go_wp2_with fail
            go_round
            case rel => exact ⟨k + 1, S, by omega, by go_num, rfl, hidI (by rw [HR.out, Hd.out hlt, namedGo, if_neg h5]), hS⟩
            case measure => simp [intOf]; omega
        · go_wp2_with fail
          go_ret
          exact ⟨ret_int (by rw [HF.out, HR.out, List.drop_of_length_le (by omega)]; rfl), rfl⟩
  · have hv' : codeValid zs = false := by simpa using hv
    clear hv
    have HF := hidI (show factsNamed zs = -1 by unfold factsNamed; rw [hv']; rfl)
    go_enter Try.func21, Try.ntmps21
    go_wp2_with (go_at_call 19; refine (spec_CodeValid zs _ _ h' hlen).mono ?_; rintro e w' ⟨rfl, rfl⟩)
    go_ret
    exact ⟨ret_int HF.out.symm, rfl⟩
end Go.Proofs.Ytfofjghcofjojaa
