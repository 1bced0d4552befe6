/- FactsMatter, of the program and of the reference. -/
import Derived.Test.YtnalhgknjnaliaaTruth
import Derived.Test.YtnalhgknjnaliaaSets
import Derived.Deep.QuietTactic
import Derived.BigQuiet
import Derived.Deep.RegionHeld3
import Derived.Outline
namespace Go.Proofs.Ytnalhgknjnaliaa
open Go.RowKit

def orIn (zs : List Int) (f : Nat) : Nat → Nat → Nat
  | 0, S => S
  | k + 1, S => if runAll zs k != runAll zs (k ^^^ 2 ^ f) then orIn zs f k S ||| 2 ^ f else orIn zs f k S

def mattTo (zs : List Int) : Nat → Nat
  | 0 => 0
  | f + 1 => orIn zs f 32 (mattTo zs f)

theorem orIn_lt (zs : List Int) (f : Nat) (hf : f < 5) : ∀ k S, S < 32 → orIn zs f k S < 32
  | 0, S, h => h
  | k + 1, S, h => by
    rw [orIn]
    have := orIn_lt zs f hf k S h
    split
    · exact or_lt32 this (pow_lt32 hf)
    · exact this
theorem mattTo_lt (zs : List Int) : ∀ f, f ≤ 5 → mattTo zs f < 32
  | 0, _ => by simp [mattTo]
  | f + 1, h => orIn_lt zs f (by omega) 32 _ (mattTo_lt zs f (by omega))

def factsMatter (zs : List Int) : Int := if codeValid zs then mattTo zs 5 else -1


theorem bit_truth (zs : List Int) (k : Nat) (h : k < 32) : bits .and .i64 ((truthTo zs 32 : Int) / 2 ^ k) 1 = b2 (runAll zs k) := by
  have hT := truthTo_small zs (Nat.le_refl 32)
  have h1 : ((truthTo zs 32 : Int) / 2 ^ k) = ((truthTo zs 32 / 2 ^ k : Nat) : Int) := by simp
  have h2 : truthTo zs 32 / 2 ^ k ≤ truthTo zs 32 := Nat.div_le_self _ _
  rw [h1, show (1 : Int) = ((1 : Nat) : Int) from rfl, and_i64 _ _ (by omega) (by omega), bit_is, truthTo_testBit, decide_eq_true h, Bool.true_and]
  unfold b2
  cases runAll zs k <;> rfl

set_option maxHeartbeats 1000000 in
theorem impl_FactsMatter (zs : List Int) (v : Value) (w : World) (h : IntS w v zs) :
    Calls Try.prog 26 #[v] w fun e w' => e = .returned (.int .i64 (factsMatter zs)) ∧ Below w.heap.size w w' := by
  cases hv : codeValid zs
  · have HF := hidI (show factsMatter zs = -1 by unfold factsMatter; rw [hv]; rfl)
    have HV := hidI hv; clear hv
    go_enter Try.func26, Try.ntmps26
    go_wp2_with (go_at_call 14; refine (impl_CodeValid zs _ _ h).mono ?_; rintro e w' ⟨rfl, rfl⟩; rw [HV.out])
    go_ret
    exact ⟨ret_int HF.out.symm, Below.refl _ _⟩
  · have HF := hidI (show factsMatter zs = mattTo zs 5 by unfold factsMatter; rw [hv]; rfl)
    have HT := hidI (show codeTruth zs = (truthTo zs 32 : Nat) by unfold codeTruth; rw [hv]; rfl)
    have HV := hidI hv; clear hv
    have hT := truthTo_small zs (Nat.le_refl 32)
    have HB := hidI (bit_truth zs)
    obtain ⟨T, hTT⟩ : ∃ T, T = truthTo zs 32 := ⟨_, rfl⟩
    rw [← hTT] at hT HB HT
    clear hTT
    go_enter Try.func26, Try.ntmps26
    go_wp2_with fail
    refine (impl_CodeValid zs _ _ h).mono ?_; rintro e w' ⟨rfl, rfl⟩; rw [HV.out]
    go_wp2_with fail
    refine (impl_CodeTruth zs _ _ h).mono ?_; rintro e w1 ⟨rfl, b1⟩; rw [HT.out]
    have B1 := hidI b1; clear b1
    go_wp2_with fail
    go_loopw [4, 12] (fun s i wr => ∃ f S : Nat, f ≤ 5 ∧ i = .int .i64 f ∧ s = .int .i64 S ∧ Hid (S = mattTo zs f) ∧ Hid (Below w.heap.size w wr)) (fun _ i _ => 5 - (intOf i).toNat)
    case atStart => exact ⟨0, 0, by omega, rfl, rfl, hidI rfl, B1⟩
    case round =>
      clear B1
      obtain ⟨f, S, hf, rfl, rfl, HS, HBw⟩ := hrel
      by_cases hlt : f < 5
      · have hs := shl1 (n := f) (by omega)
        have hp := pow_lt32 hlt
        obtain ⟨P, hP⟩ : ∃ P : Nat, P = 2 ^ f := ⟨_, rfl⟩
        rw [← hP] at hs hp
        have HP := hidI hP; clear hP
        obtain ⟨wo, hwo⟩ : ∃ wo : World, wo = wr := ⟨_, rfl⟩
        rw [← hwo]; rw [← hwo] at HBw; clear hwo
        go_wp2_with fail
        go_loopw [4, 15] (fun s i wr => ∃ k S' : Nat, k ≤ 32 ∧ i = .int .i64 k ∧ s = .int .i64 S' ∧ Hid (S' = orIn zs f k S) ∧ S' < 32 ∧ Hid (Below w.heap.size w wr)) (fun _ i _ => 32 - (intOf i).toNat)
        case atStart => exact ⟨0, S, by omega, rfl, rfl, hidI rfl, by rw [HS.out]; exact mattTo_lt zs f (by omega), HBw⟩
        case round =>
          obtain ⟨k, S', hk, rfl, rfl, HS', hS', HBr⟩ := hrel
          by_cases hlk : k < 32
          · have hX := xor_lt32 hlk hp
            have hx := xor_i64 k P (by omega) (by omega)
            have hor := or_i64 S' P (by omega) (by omega)
            have hb1 := HB.out k hlk
            have hb2 := HB.out (k ^^^ P) hX
            obtain ⟨X, hXX⟩ : ∃ X, X = k ^^^ P := ⟨_, rfl⟩
            rw [← hXX] at hX hx hb2
            have HX := hidI hXX; clear hXX
            cases r1 : runAll zs k
            all_goals cases r2 : runAll zs X
            all_goals
              rw [r1] at hb1; rw [r2] at hb2
              simp only [b2_true, b2_false] at hb1 hb2
              have R1 := hidI r1; have R2 := hidI r2; clear r1 r2
              go_wp2_with fail
              go_quiet (fail)
              go_wp2_with fail
              go_roundw
              case rel =>
                refine ⟨k + 1, _, by omega, by go_num, rfl, hidI ?_, ?_, hidI (HBr.out.trans ((bdraw _ _).mono HBr.out.size))⟩
                · rw [orIn, ← HP.out, ← HX.out, R1.out, R2.out, HS'.out]; rfl
                · first | exact hS' | exact or_lt32 hS' hp
              case measure => simp [intOf]; omega
          · obtain rfl : k = 32 := by omega
            go_wp2_with fail
            go_roundw
            case rel => exact ⟨f + 1, S', by omega, by go_num, rfl, hidI (by rw [mattTo, ← HS.out, HS'.out]), HBr⟩
            case measure => simp [intOf]; omega
      · obtain rfl : f = 5 := by omega
        go_wp2_with fail
        go_ret
        exact ⟨ret_int (by rw [HF.out, HS.out]), HBw.out⟩


end Go.Proofs.Ytnalhgknjnaliaa
