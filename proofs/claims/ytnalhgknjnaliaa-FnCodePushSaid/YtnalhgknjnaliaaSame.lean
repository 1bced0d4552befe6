/- SameCode and CodeJoin, of the program and of the reference. -/
import Derived.Test.YtnalhgknjnaliaaTruth
import Derived.Test.YtnalhgknjnaliaaConcat
import Derived.Test.YtnalhgknjnaliaaStepL
import Derived.Outline
namespace Go.Proofs.Ytnalhgknjnaliaa
open Go.RowKit

def sameCode (xs ys : List Int) : Bool := codeValid xs && codeValid ys && (codeTruth xs == codeTruth ys)

theorem impl_SameCode (xs ys : List Int) (va vb : Value) (w : World) (hx : IntS w va xs) (hy : IntS w vb ys) :
    Calls Try.prog 19 #[va, vb] w fun e w' => e = .returned (.bool (sameCode xs ys)) ∧ Below w.heap.size w w' := by
  have HX := hidI (rfl : codeValid xs = codeValid xs)
  cases hva : codeValid xs
  · have HF := hidI (show sameCode xs ys = false by unfold sameCode; rw [hva]; rfl)
    have HA := hidI hva; clear hva
    go_enter Try.func19, Try.ntmps19
    go_wp2_with (go_at_call 14; refine (impl_CodeValid xs _ _ hx).mono ?_; rintro e w' ⟨rfl, rfl⟩; rw [HA.out])
    go_ret
    exact ⟨ret_bool HF.out.symm, Below.refl _ _⟩
  · cases hvb : codeValid ys
    · have HF := hidI (show sameCode xs ys = false by unfold sameCode; rw [hvb, Bool.and_false]; rfl)
      have HA := hidI hva; clear hva
      have HB := hidI hvb; clear hvb
      go_enter Try.func19, Try.ntmps19
      go_wp2_with fail
      refine (impl_CodeValid xs _ _ hx).mono ?_; rintro e w' ⟨rfl, rfl⟩; rw [HA.out]
      go_wp2_with fail
      refine (impl_CodeValid ys _ _ hy).mono ?_; rintro e w' ⟨rfl, rfl⟩; rw [HB.out]
      go_wp2_with fail
      go_ret
      exact ⟨ret_bool HF.out.symm, Below.refl _ _⟩
    · have HF := hidI (show sameCode xs ys = (codeTruth xs == codeTruth ys) by unfold sameCode; rw [hva, hvb]; rfl)
      have HA := hidI hva; clear hva
      have HB := hidI hvb; clear hvb
      go_enter Try.func19, Try.ntmps19
      go_wp2_with fail
      refine (impl_CodeValid xs _ _ hx).mono ?_; rintro e w' ⟨rfl, rfl⟩; rw [HA.out]
      go_wp2_with fail
      refine (impl_CodeValid ys _ _ hy).mono ?_; rintro e w' ⟨rfl, rfl⟩; rw [HB.out]
      go_wp2_with fail
      refine (impl_CodeTruth xs _ _ hx).mono ?_; rintro e w1 ⟨rfl, b1⟩
      go_wp2_with fail
      refine (impl_CodeTruth ys _ _ (hy.below b1)).mono ?_; rintro e w2 ⟨rfl, b2⟩
      go_wp2_with fail
      go_ret
      exact ⟨ret_bool HF.out.symm, bthen b1 b2⟩



theorem codeJoin_spec (xs ys : List Int) (s : Int) (h : (s = 8 ∨ s = 9) ∧ codeValid xs = true ∧ codeValid ys = true) : codeValid (xs ++ ys ++ [s]) = decide (xs.length + ys.length + 1 ≤ 40) := by
  obtain ⟨hs, ha, hb⟩ := h
  have hf := fits_join (valid_iff xs |>.1 ha).1 (valid_iff ys |>.1 hb).1 (show 8 ≤ s by omega) (show s ≤ 9 by omega)
  have hl : (xs ++ ys ++ [s]).length = xs.length + ys.length + 1 := by simp; omega
  have hv := valid_iff (xs ++ ys ++ [s])
  rw [hl] at hv
  by_cases h40 : xs.length + ys.length + 1 ≤ 40
  · rw [decide_eq_true h40]; exact hv.2 ⟨hf, h40⟩
  · rw [decide_eq_false h40]
    cases hc : codeValid (xs ++ ys ++ [s])
    · rfl
    · exact absurd (hv.1 hc).2 h40

set_option maxHeartbeats 1000000 in
theorem spec_CodeJoin (xs ys : List Int) (s : Int) (va vb : Value) (w : World) (hx : IntS w va xs) (hy : IntS w vb ys) (hl : xs.length ≤ 1999990) (hl2 : ys.length ≤ 1999990) (hs64 : I64 s) :
    Calls Try.prog 55 #[va, vb, .int .i64 s] w fun e w' => GivesS w w' (codeJoin xs ys s) e := by
  go_enter Try.func55, Try.ntmps55
  go_wp2_with (at_builtin; refine wpList_appendS _ rfl _ _ 24 rfl w.heap.size 3 Try.underlying24 infoInt (.slice (some ⟨w.heap.size, 0, none⟩) 0 0) 0 [] va xs rfl rfl (World.ownsRow_made w #[] 0 (Nat.le_refl _) (by decide) (by simp)) (hx.below ((Below.refl _ _).alloc (Nat.le_refl _) _)) (by omega) (by simp) ?_)
  intro v1 w1 ho1 hb1 _ _
  have hb1' := hb1 w ((Below.refl _ _).alloc (Nat.le_refl _) _)
  (try simp only [Nat.zero_add, List.nil_append] at ho1)
  have HO1 := hidI ho1; clear ho1 hb1
  have hs1 := hb1'.size
  have hy1 := hy.below hb1'
  go_wp2_with (at_builtin; refine wpList_appendS _ rfl _ _ 24 rfl w.heap.size 3 Try.underlying24 infoInt v1 xs.length xs vb ys rfl rfl HO1.out hy1 (by omega) hs1 ?_)
  intro v2 w2 ho2 hb2 _ _
  have hb2' := hb2 w hb1'
  have HO2 := hidI ho2; clear ho2 hb2
  have hs2 := hb2'.size
  go_wp2_with (at_builtin; refine wpList_push _ rfl _ _ 24 rfl w.heap.size 3 (.int .i64 0) 8 Try.underlying24 infoInt rfl v2 (xs.length + ys.length) ((xs ++ ys).map (Value.int .i64)) _ rfl rfl (by rw [List.map_append]; exact HO2.out) rfl (by omega) (by decide) hs2 ?_)
  intro g c w3 hg ho3 hb3 _
  have hb3' := hb3 w hb2'
  have ho4 : w3.ownsRow w.heap.size 3 1 (.slice (some ⟨g, 0, none⟩) (xs.length + ys.length + 1) c) (xs.length + ys.length + 1) ((xs ++ ys ++ [s]).map (Value.int .i64)) := by simpa [List.append_assoc] using ho3
  have hz : ∀ z ∈ xs ++ ys ++ [s], I64 z := by
    intro z hz
    rcases List.mem_append.1 hz with hz | hz
    · rcases List.mem_append.1 hz with hz | hz
      · exact hx.1 z hz
      · exact hy.1 z hz
    · obtain rfl : z = s := by simpa using hz
      exact hs64
  obtain ⟨hl4, hi4⟩ := IntS.ofOwn ho4 hz
  have HO3 := hidI ho4; clear ho3 hb3 ho4 HO1 HO2 hy1 hb2' hb1' hs1 hs2 hz
  have hx3 := hx.below hb3'
  have hy3 := hy.below hb3'
  have hl5 : (xs ++ ys ++ [s]).length ≤ 4000000 := by rw [← hl4]; omega
  have HL := hidI hl4; clear hl4
  have NO : codeJoin xs ys s = none → GivesS w (w3.alloc (.cells #[] 3)) (codeJoin xs ys s) (.returned (.tuple #[.slice (some ⟨w3.heap.size, 0, none⟩) 0 0, .bool false])) := fun h => by
    rw [h]; exact ⟨_, rfl, World.ownsRow_made w3 #[] 0 hb3'.size (by decide) (by simp), hb3'.trans ((Below.refl _ _).alloc hb3'.size _)⟩
  have HNO := hidI NO; clear NO
  cases hva : codeValid xs
  · have HF := hidI (show codeJoin xs ys s = none by unfold codeJoin; rw [hva]; simp)
    have HA := hidI hva; clear hva
    go_wp2_with fail
    refine (spec_CodeValid xs _ _ hx3 (by omega)).mono ?_; rintro e w' ⟨rfl, rfl⟩; rw [HA.out]
    go_wp2_with fail
    go_ret2
    exact HNO.out HF.out
  · cases hvb : codeValid ys
    · have HF := hidI (show codeJoin xs ys s = none by unfold codeJoin; rw [hvb]; simp)
      have HA := hidI hva; clear hva
      have HB := hidI hvb; clear hvb
      go_wp2_with fail
      refine (spec_CodeValid xs _ _ hx3 (by omega)).mono ?_; rintro e w' ⟨rfl, rfl⟩; rw [HA.out]
      go_wp2_with fail
      refine (spec_CodeValid ys _ _ hy3 (by omega)).mono ?_; rintro e w' ⟨rfl, rfl⟩; rw [HB.out]
      go_wp2_with fail
      go_ret2
      exact HNO.out HF.out
    · by_cases hs : s = 8 ∨ s = 9
      · have hcs := codeJoin_spec xs ys s ⟨hs, hva, hvb⟩
        by_cases hlen : xs.length + ys.length + 1 ≤ 40
        · have HF := hidI (show codeJoin xs ys s = some (xs ++ ys ++ [s]) by unfold codeJoin; rw [if_pos ⟨hs, hva, hvb, hlen⟩])
          rw [decide_eq_true hlen] at hcs
          have HC := hidI hcs; clear hcs
          have HA := hidI hva; clear hva
          have HB := hidI hvb; clear hvb
          rcases hs with rfl | rfl
          all_goals
            go_wp2_with fail
            refine (spec_CodeValid xs _ _ hx3 (by omega)).mono ?_; rintro e w' ⟨rfl, rfl⟩; rw [HA.out]
            go_wp2_with fail
            refine (spec_CodeValid ys _ _ hy3 (by omega)).mono ?_; rintro e w' ⟨rfl, rfl⟩; rw [HB.out]
            go_wp2_with fail
            refine (spec_CodeValid _ _ _ hi4 hl5).mono ?_; rintro e w' ⟨rfl, rfl⟩; rw [HC.out]
            go_wp2_with fail
            go_ret2
            rw [HF.out]
            exact ⟨_, rfl, by show World.ownsRow _ _ _ _ _ (xs ++ ys ++ _).length _; rw [← HL.out]; exact HO3.out, hb3'⟩
        · have HF := hidI (show codeJoin xs ys s = none by unfold codeJoin; rw [if_neg (fun h => hlen h.2.2.2)])
          rw [decide_eq_false hlen] at hcs
          have HC := hidI hcs; clear hcs
          have HA := hidI hva; clear hva
          have HB := hidI hvb; clear hvb
          rcases hs with rfl | rfl
          all_goals
            go_wp2_with fail
            refine (spec_CodeValid xs _ _ hx3 (by omega)).mono ?_; rintro e w' ⟨rfl, rfl⟩; rw [HA.out]
            go_wp2_with fail
            refine (spec_CodeValid ys _ _ hy3 (by omega)).mono ?_; rintro e w' ⟨rfl, rfl⟩; rw [HB.out]
            go_wp2_with fail
            refine (spec_CodeValid _ _ _ hi4 hl5).mono ?_; rintro e w' ⟨rfl, rfl⟩; rw [HC.out]
            go_wp2_with fail
            go_ret2
            exact HNO.out HF.out
      · have HF := hidI (show codeJoin xs ys s = none by unfold codeJoin; rw [if_neg (fun h => hs h.1)])
        have h8 : (s != 8) = true := by simp; omega
        have h9 : (s != 9) = true := by simp; omega
        clear hs
        have HA := hidI hva; clear hva
        have HB := hidI hvb; clear hvb
        go_wp2_with fail
        refine (spec_CodeValid xs _ _ hx3 (by omega)).mono ?_; rintro e w' ⟨rfl, rfl⟩; rw [HA.out]
        go_wp2_with fail
        refine (spec_CodeValid ys _ _ hy3 (by omega)).mono ?_; rintro e w' ⟨rfl, rfl⟩; rw [HB.out]
        go_wp2_with fail
        go_ret2
        exact HNO.out HF.out
end Go.Proofs.Ytnalhgknjnaliaa
