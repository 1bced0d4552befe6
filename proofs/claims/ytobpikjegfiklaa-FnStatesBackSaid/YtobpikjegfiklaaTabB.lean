/- backStates. -/
import Derived.Test.YtobpikjegfiklaaTabN
import Derived.Outline
import Derived.Deep.Cut
namespace Go.Proofs.Ytobpikjegfiklaa
open Go.RowKit

/-- The states behind which a deed leads into a set. -/
def backIn (f : Nat → Int) (S : Nat) : Nat → Nat → Nat
  | 0, X => X
  | s + 1, X => if 0 ≤ f s && S.testBit (f s).toNat then backIn f S s X ||| 2 ^ s else backIn f S s X

theorem backIn_no {f : Nat → Int} {S s X : Nat} (h : (0 ≤ f s && S.testBit (f s).toNat) = false) : backIn f S (s + 1) X = backIn f S s X := by
  rw [backIn, h]; rfl
theorem backIn_yes {f : Nat → Int} {S s X T : Nat} (h : f s = T) (hb : S.testBit T = true) : backIn f S (s + 1) X = backIn f S s X ||| 2 ^ s := by
  rw [backIn, h, Int.toNat_natCast, hb, decide_eq_true (by omega)]; rfl

def backTo (ds : List DeedM) (S : Nat) : Nat → Nat
  | 0 => 0
  | k + 1 => backIn (fun s => tabAt ds (k * 32 + s)) S 32 (backTo ds S k)

set_option maxRecDepth 100000 in
set_option maxHeartbeats 2000000 in
theorem impl_backStates (ds : List DeedM) (S g : Nat) (w : World) (hT : TabP w g ds.length (ds.length * 32) ds) (hl : ds.length ≤ 6) (hS : S < 4294967296) (hr : ∀ p, tabAt ds p = -1 ∨ ∃ T : Nat, T < 32 ∧ tabAt ds p = T) :
    Calls Try.prog 75 #[.slice (some ⟨g, 0, none⟩) ds.length ds.length, .int .i64 S] w fun e w' => e = .returned (.int .i64 (backTo ds S ds.length)) ∧ Below w.heap.size w w' := by
  have HT := hidI hT; clear hT
  have HR := hidI hr; clear hr
  have hinf := (zero_of_info (P := Try.prog) (t := 85) (v := .agg zeroRow) (n := 32) (by kernel_rfl)).2
  have HI := hidI hinf; clear hinf
  go_enter Try.func75, Try.ntmps75
  go_wp2_with fail
  go_loopw [5, 12] (fun x i wr => ∃ k X : Nat, k ≤ ds.length ∧ i = .int .i64 k ∧ x = .int .i64 X ∧ X < 4294967296 ∧ Hid (X = backTo ds S k) ∧ Hid (Below w.heap.size w wr)) (fun _ i _ => ds.length - (intOf i).toNat)
  case atStart => exact ⟨0, 0, by omega, rfl, rfl, by omega, hidI rfl, hidI (Below.refl _ _)⟩
  case round =>
    obtain ⟨k, X, hk, rfl, rfl, hX, HX, HB⟩ := hrel
    rcases Nat.lt_or_ge k ds.length with hlt | hge
    rotate_left
    · obtain rfl : k = ds.length := by omega
      go_wp2_with fail
      go_ret
      exact ⟨ret_int (by rw [HX.out]), HB.out⟩
    obtain ⟨R, hR⟩ : ∃ R, R = tabRow ds k := ⟨_, rfl⟩
    have hrng := tab_range (HT.out.below HB.out) hlt
    rw [← hR] at hrng
    have hsize : R.toList.length = 32 := by rw [hR]; simp [tabRow]
    have hsR : R.size = 32 := by rw [hR, tabRow_size]
    have hinf : (Try.prog.info? 85).map (·.size) = some R.toList.length := by rw [hsize]; exact HI.out
    have HRR := hidI hR; have HRNG := hidI hrng; clear hR hrng
    have hk0 : (0 : Int) ≤ (k : Int) := by omega
    have hk1 : (k : Int) < (ds.length : Int) := by omega
    go_upto_region 4 with fail
    refine wp_region_lit ?_
    refine wpList_plain rfl (fun K hK => ?_)
    go_simp
    refine hK _ _ ?_
    clear hK K
    try simp only [Act.put, List.setIfInBounds_toArray, List.set_cons_zero, List.set_cons_succ]
    refine wpList_load_mid rfl 85 _ rfl g (k * 32) rfl R.toList _ HRNG.out Try.underlying85 rfl hinf ?_
    simp only [Act.put, List.setIfInBounds_toArray, List.set_cons_zero, List.set_cons_succ, Array.toArray_toList]
    refine wpList_plain rfl (fun K hK => ?_)
    go_simp
    refine hK _ _ ?_
    clear hK K
    try simp only [Act.put, List.setIfInBounds_toArray, List.set_cons_zero, List.set_cons_succ]
    refine wpList_store_new rfl 85 _ _ rfl _ R rfl rfl (by simpa using hinf) (by rw [hsR]; rfl) (by rw [HRR.out]; exact tabRow_one _ _) ?_
    try simp only [Act.put, List.setIfInBounds_toArray, List.set_cons_zero, List.set_cons_succ]
    obtain ⟨Wd, hWd⟩ : ∃ Wd, Wd = wr.alloc (.cells R 85) := ⟨_, rfl⟩
    have HNR := hidI (show Wd.rangeAt wr.heap.size 0 R.toList by rw [hWd]; exact new_range _ _ _)
    have HBd := hidI (show Below w.heap.size w Wd by rw [hWd]; exact HB.out.alloc HB.out.size _)
    rw [← hWd]; clear hWd
    obtain ⟨vb, hvb⟩ : ∃ vb, vb = wr.heap.size := ⟨_, rfl⟩
    rw [← hvb] at HNR ⊢
    clear hvb
    go_upto_region 5 with fail
    refine wp_region_lit ?_
    refine wpList_load_mid rfl 85 _ rfl vb 0 rfl R.toList _ HNR.out Try.underlying85 rfl hinf ?_
    simp only [Act.put, List.setIfInBounds_toArray, List.set_cons_zero, List.set_cons_succ, Array.toArray_toList]
    go_wp2_with fail
    go_loopw [5, 17] (fun x i wr => ∃ s Y : Nat, s ≤ 32 ∧ i = .int .i64 s ∧ x = .int .i64 Y ∧ Y < 4294967296 ∧ Hid (Y = backIn (fun s => tabAt ds (k * 32 + s)) S s X) ∧ Hid (wr = Wd)) (fun _ i _ => 32 - (intOf i).toNat)
    case atStart => exact ⟨0, X, by omega, rfl, rfl, hX, hidI rfl, hidI rfl⟩
    case round =>
      obtain ⟨s, Y, hs, rfl, rfl, hY, HY, HW⟩ := hrel
      rcases Nat.lt_or_ge s 32 with hs2 | hs2
      rotate_left
      · obtain rfl : s = 32 := by omega
        go_wp2_with fail
        go_roundw
        case rel => exact ⟨k + 1, Y, by omega, by go_num, rfl, hY, hidI (by rw [HY.out, HX.out]; rfl), by rw [HW.out]; exact HBd⟩
        case measure => simp [intOf]; omega
      have hRs : R[s]? = some (.int .i64 (tabAt ds (k * 32 + s))) := by rw [HRR.out]; exact tabRow_at ds k s hs2
      have hs0 : (0 : Int) ≤ (s : Int) := by omega
      have hs1 : (s : Int) < 32 := by omega
      have hix := run_index_row (P := Try.prog) 85 _ _ R s _ Try.underlying85 size_int agg_int hs2 hRs
      clear hRs
      rcases HR.out (k * 32 + s) with hF | ⟨T, hT, hF⟩
      · have HN := hidI (backIn_no (f := fun s => tabAt ds (k * 32 + s)) (S := S) (s := s) (X := X) (by simp [hF]))
        rw [hF] at hix; clear hF
        go_wp2_with fail
        go_roundw
        case rel => exact ⟨s + 1, Y, by omega, by go_num, rfl, hY, hidI (by rw [HN.out]; exact HY.out), HW⟩
        case measure => simp [intOf]; omega
      · have HF := hidI hF
        rw [hF] at hix; clear hF
        have hbit := bit_of (S := S) (lt_62 hS) T
        have hp := shl1 (n := s) (by omega)
        have hp2 := pow_lt2_32 hs2
        obtain ⟨P, hP⟩ : ∃ P : Nat, P = 2 ^ s := ⟨_, rfl⟩
        rw [← hP] at hp hp2
        have HP := hidI hP; clear hP
        have hor := or_i64 Y P (lt_63 hY) (lt_63 hp2)
        have hor2 := or_lt2_32 hY hp2
        cases hb : S.testBit T
        · have HN := hidI (backIn_no (f := fun s => tabAt ds (k * 32 + s)) (S := S) (s := s) (X := X) (by rw [HF.out, Int.toNat_natCast, hb]; simp))
          rw [hb, if_neg (by simp)] at hbit; clear hb
          go_wp2_with fail
          go_roundw
          case rel => exact ⟨s + 1, Y, by omega, by go_num, rfl, hY, hidI (by rw [HN.out]; exact HY.out), HW⟩
          case measure => simp [intOf]; omega
        · have HN := hidI (backIn_yes (f := fun s => tabAt ds (k * 32 + s)) (S := S) (s := s) (X := X) HF.out hb)
          rw [hb, if_pos rfl] at hbit; clear hb
          go_wp2_with fail
          go_roundw
          case rel => exact ⟨s + 1, _, by omega, by go_num, rfl, hor2, hidI (by rw [HN.out, ← HY.out, HP.out]), HW⟩
          case measure => simp [intOf]; omega
end Go.Proofs.Ytobpikjegfiklaa
