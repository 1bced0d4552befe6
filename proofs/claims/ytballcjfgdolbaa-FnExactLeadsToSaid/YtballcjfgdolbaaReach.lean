/- Reached and LeadsTo, of the program and of the reference. -/
import Derived.Test.YtballcjfgdolbaaFix
import Derived.Test.YtballcjfgdolbaaStates
import Derived.Deep.RegionHeld3
import Derived.Outline
namespace Go.Proofs.Ytballcjfgdolbaa
open Go.RowKit

def reached (t : TaskM) : Int := if taskValid t then (fixV (fun S => nextTo t.deeds S t.deeds.length) (2 ^ t.start.toNat) : Nat) else -1
def leadsTo (t : TaskM) : Int := if taskValid t then (fixV (fun S => backTo t.deeds S t.deeds.length) (truthTo t.goal 32) : Nat) else -1

set_option maxRecDepth 100000 in
set_option maxHeartbeats 2000000 in
theorem impl_Reached (t : TaskM) (v : Value) (w : World) (ht : IsTask w v t) :
    Calls Try.prog 38 #[v] w fun e w' => e = .returned (.int .i64 (reached t)) ∧ Below w.heap.size w w' := by
  obtain ⟨go, gl, gc, ao, l, cp, hv, hs, h3, h4⟩ := id ht
  subst hv
  obtain ⟨Wb, hWb⟩ : ∃ Wb, Wb = w.alloc (.cells #[.int .i64 t.start, .slice go gl gc, .slice ao l cp] 39) := ⟨_, rfl⟩
  have bb : Below w.heap.size w Wb := by rw [hWb]; exact (Below.refl w.heap.size w).alloc (Nat.le_refl _) _
  have hsz : Wb.heap.size = w.heap.size + 1 := by rw [hWb]; simp
  have CC : ∀ W, Below Wb.heap.size Wb W → W.cell? ⟨w.heap.size, 0, none⟩ = some (.int .i64 t.start) ∧ W.cell? ⟨w.heap.size, 1, none⟩ = some (.slice go gl gc) ∧ W.cell? ⟨w.heap.size, 2, none⟩ = some (.slice ao l cp) := fun W hW =>
    ⟨(hW.cell (by simp; omega)).trans (by rw [hWb, cell_new]; rfl), (hW.cell (by simp; omega)).trans (by rw [hWb, cell_new]; rfl), (hW.cell (by simp; omega)).trans (by rw [hWb, cell_new]; rfl)⟩
  have HT0 := hidI (ht.below bb)
  have HB := hidI bb; have HCC := hidI CC; have HG := hidI (h3.below bb)
  have hle : w.heap.size ≤ Wb.heap.size := by omega
  obtain ⟨c0, c1, c2⟩ := CC Wb (Below.refl _ _)
  clear bb hsz CC ht h3 h4 hs
  cases hv : taskValid t
  · have HF := hidI (show reached t = -1 by unfold reached; rw [hv]; rfl)
    have HV := hidI hv; clear hv
    go_enter Try.func38, Try.ntmps38
    go_wp2_with fail
    rw [← hWb]; clear hWb
    refine (impl_TaskValid t _ _ HT0.out).mono ?_; rintro e w1 ⟨rfl, b1⟩; rw [HV.out]
    go_wp2_with fail
    go_ret
    exact ⟨ret_int HF.out.symm, HB.out.trans (b1.mono hle)⟩
  have HF := hidI (show reached t = (fixV (fun S => nextTo t.deeds S t.deeds.length) (2 ^ t.start.toNat) : Nat) by unfold reached; rw [hv]; rfl)
  obtain ⟨hsi, hgv, hl6, hdv⟩ := taskValid_parts hv
  have hr := tab_range2 hdv
  have hg : ∀ S, S < 4294967296 → (fun S => nextTo t.deeds S t.deeds.length) S < 4294967296 := fun S hS => nextTo_lt hr S _
  have HG2 := hidI hg; clear hg
  obtain ⟨s0, hs0, hs32⟩ := inS_true hsi
  have hX0 : 2 ^ t.start.toNat < 4294967296 := by rw [hs0, Int.toNat_natCast]; exact pow_lt2_32 hs32
  have hsh := shl1 (n := s0) (by omega)
  have hs00 : t.start.toNat = s0 := by rw [hs0, Int.toNat_natCast]
  rw [hs00] at HF hX0
  have HS0 := hidI hs0; rw [hs0] at c0 HCC hWb HT0 ⊢; clear hs0
  obtain ⟨X0, hX00⟩ : ∃ X0, X0 = 2 ^ s0 := ⟨_, rfl⟩
  rw [← hX00] at HF hX0 hsh
  clear hs00 hsi hX00
  have HDV := hidI hdv; have HTR := hidI hr
  have HV := hidI hv; clear hv hdv hr
  go_enter Try.func38, Try.ntmps38
  go_wp2_with fail
  rw [← hWb]; clear hWb
  refine (impl_TaskValid t _ _ HT0.out).mono ?_; rintro e w1 ⟨rfl, b1⟩; rw [HV.out]
  have B1 := hidI b1; clear b1 c0 c1 c2
  obtain ⟨c0, c1, c2⟩ := HCC.out _ B1.out
  go_wp2_with fail
  go_region_held3 (fun W => W.cell? ⟨w.heap.size, 0, none⟩ = some (.int .i64 (s0 : Int)) ∧ W.cell? ⟨w.heap.size, 1, none⟩ = some (.slice go gl gc) ∧ W.cell? ⟨w.heap.size, 2, none⟩ = some (.slice ao l cp) ∧ Hid (Below Wb.heap.size Wb W)) (first | exact ⟨c0, c1, c2, hidI B1.out.drew⟩ | (refine ⟨?_, ?_, ?_, ?_⟩ <;> assumption)) (first | (go_at_call 68; refine (impl_behindAll t _ _ (HT0.out.below B1.out.drew) HDV.out hl6).mono ?_; rintro e w2 ⟨g, rfl, h2, b2⟩; have H2 := hidI h2; have B2 := hidI (bthen B1.out.drew b2); clear h2 b2; obtain ⟨d0, d1, d2⟩ := HCC.out _ B2.out) | fail)
  go_wp2_with fail
  go_loopw [4] (fun x wr => ∃ X : Nat, x = .int .i64 X ∧ X < 4294967296 ∧ Hid (reached t = (fixV (fun S => nextTo t.deeds S t.deeds.length) X : Nat)) ∧ Hid (TabP wr g t.deeds.length (t.deeds.length * 32) t.deeds) ∧ Hid (Below Wb.heap.size Wb wr)) (fun x _ => 4294967296 - (intOf x).toNat)
  case atStart => exact ⟨X0, by first | rfl | rw [hsh] | rw [IntWalk.i64_left, hsh], hX0, HF, H2, B2⟩
  case round =>
    obtain ⟨X, rfl, hX, HX, HT, HBr⟩ := hrel
    go_wp2_with fail
    refine (impl_nextStates t.deeds X g _ HT.out hl6 hX HTR.out).mono ?_; rintro e w4 ⟨rfl, b4⟩
    have B4 := hidI (bthen HBr.out b4); have T4 := hidI (HT.out.below b4); clear b4
    have hY : nextTo t.deeds X t.deeds.length < 4294967296 := HG2.out X hX
    have HE := hidI (show X ||| nextTo t.deeds X t.deeds.length = X → fixV (fun S => nextTo t.deeds S t.deeds.length) X = X from fun h => fixV_end h)
    have HN := hidI (show X ||| nextTo t.deeds X t.deeds.length ≠ X → fixV (fun S => nextTo t.deeds S t.deeds.length) X = fixV (fun S => nextTo t.deeds S t.deeds.length) (X ||| nextTo t.deeds X t.deeds.length) from fun h => fixV_next HG2.out hX h)
    obtain ⟨Y, hYY⟩ : ∃ Y, Y = nextTo t.deeds X t.deeds.length := ⟨_, rfl⟩
    rw [← hYY] at hY HE HN ⊢
    clear hYY
    have hor := or_i64 X Y (lt_63 hX) (lt_63 hY)
    have hZl := or_lt2_32 hX hY
    have HGr := hidI (or_grows (a := X) (b := Y))
    obtain ⟨Z, hZ⟩ : ∃ Z, Z = X ||| Y := ⟨_, rfl⟩
    rw [← hZ] at hor hZl HGr HE HN
    clear hZ
    by_cases e : Z = X
    · have HE' := hidI (HE.out e); subst e
      clear HN HE HGr
      go_wp2_with fail
      go_ret
      refine ⟨?_, HB.out.trans (B4.out.mono hle)⟩
      exact ret_int (by rw [HX.out, HE'.out])
    · have HN' := hidI (HN.out e); have hgr := HGr.out e
      clear HE HN HGr
      go_wp2_with fail
      go_roundw
      case rel => exact ⟨Z, rfl, hZl, hidI (by rw [HX.out, HN'.out]), T4, B4⟩
      case measure => simp [intOf]; omega

set_option maxRecDepth 100000 in
set_option maxHeartbeats 2000000 in
theorem impl_LeadsTo (t : TaskM) (v : Value) (w : World) (ht : IsTask w v t) :
    Calls Try.prog 40 #[v] w fun e w' => e = .returned (.int .i64 (leadsTo t)) ∧ Below w.heap.size w w' := by
  obtain ⟨go, gl, gc, ao, l, cp, hv, hs, h3, h4⟩ := id ht
  subst hv
  obtain ⟨Wb, hWb⟩ : ∃ Wb, Wb = w.alloc (.cells #[.int .i64 t.start, .slice go gl gc, .slice ao l cp] 39) := ⟨_, rfl⟩
  have bb : Below w.heap.size w Wb := by rw [hWb]; exact (Below.refl w.heap.size w).alloc (Nat.le_refl _) _
  have hsz : Wb.heap.size = w.heap.size + 1 := by rw [hWb]; simp
  have CC : ∀ W, Below Wb.heap.size Wb W → W.cell? ⟨w.heap.size, 0, none⟩ = some (.int .i64 t.start) ∧ W.cell? ⟨w.heap.size, 1, none⟩ = some (.slice go gl gc) ∧ W.cell? ⟨w.heap.size, 2, none⟩ = some (.slice ao l cp) := fun W hW =>
    ⟨(hW.cell (by simp; omega)).trans (by rw [hWb, cell_new]; rfl), (hW.cell (by simp; omega)).trans (by rw [hWb, cell_new]; rfl), (hW.cell (by simp; omega)).trans (by rw [hWb, cell_new]; rfl)⟩
  have HT0 := hidI (ht.below bb)
  have HB := hidI bb; have HCC := hidI CC; have HG := hidI (h3.below bb)
  have hle : w.heap.size ≤ Wb.heap.size := by omega
  obtain ⟨c0, c1, c2⟩ := CC Wb (Below.refl _ _)
  clear bb hsz CC ht h3 h4 hs
  cases hv : taskValid t
  · have HF := hidI (show leadsTo t = -1 by unfold leadsTo; rw [hv]; rfl)
    have HV := hidI hv; clear hv
    go_enter Try.func40, Try.ntmps40
    go_wp2_with fail
    rw [← hWb]; clear hWb
    refine (impl_TaskValid t _ _ HT0.out).mono ?_; rintro e w1 ⟨rfl, b1⟩; rw [HV.out]
    go_wp2_with fail
    go_ret
    exact ⟨ret_int HF.out.symm, HB.out.trans (b1.mono hle)⟩
  have HF := hidI (show leadsTo t = (fixV (fun S => backTo t.deeds S t.deeds.length) (truthTo t.goal 32) : Nat) by unfold leadsTo; rw [hv]; rfl)
  obtain ⟨hsi, hgv, hl6, hdv⟩ := taskValid_parts hv
  have hr := tab_range2 hdv
  have hg : ∀ S, S < 4294967296 → (fun S => backTo t.deeds S t.deeds.length) S < 4294967296 := fun S hS => backTo_lt S _
  have HG2 := hidI hg; clear hg
  have hX0 := truthTo_small t.goal (Nat.le_refl 32)
  have HCT := hidI (show codeTruth t.goal = (truthTo t.goal 32 : Nat) by unfold codeTruth; rw [hgv]; rfl)
  obtain ⟨X0, hX00⟩ : ∃ X0, X0 = truthTo t.goal 32 := ⟨_, rfl⟩
  rw [← hX00] at HF hX0 HCT
  clear hX00 hsi
  have HDV := hidI hdv; have HTR := hidI hr
  have HV := hidI hv; clear hv hdv hr
  go_enter Try.func40, Try.ntmps40
  go_wp2_with fail
  rw [← hWb]; clear hWb
  refine (impl_TaskValid t _ _ HT0.out).mono ?_; rintro e w1 ⟨rfl, b1⟩; rw [HV.out]
  have B1 := hidI b1; clear b1 c0 c1 c2
  obtain ⟨c0, c1, c2⟩ := HCC.out _ B1.out
  go_wp2_with fail
  go_region_held3 (fun W => W.cell? ⟨w.heap.size, 0, none⟩ = some (.int .i64 t.start) ∧ W.cell? ⟨w.heap.size, 1, none⟩ = some (.slice go gl gc) ∧ W.cell? ⟨w.heap.size, 2, none⟩ = some (.slice ao l cp) ∧ Hid (Below Wb.heap.size Wb W)) (first | exact ⟨c0, c1, c2, hidI B1.out.drew⟩ | (refine ⟨?_, ?_, ?_, ?_⟩ <;> assumption)) (first | (go_at_call 68; refine (impl_behindAll t _ _ (HT0.out.below B1.out.drew) HDV.out hl6).mono ?_; rintro e w2 ⟨g, rfl, h2, b2⟩; have H2 := hidI h2; have B2 := hidI (bthen B1.out.drew b2); clear h2 b2; obtain ⟨d0, d1, d2⟩ := HCC.out _ B2.out) | (go_at_call 75; refine (impl_CodeTruth t.goal _ _ (HG.out.below B2.out)).mono ?_; rintro e w3 ⟨rfl, b3⟩; rw [HCT.out]; have H3 := hidI (H2.out.below b3); have B3 := hidI (bthen B2.out b3); clear b3; obtain ⟨e0, e1, e2⟩ := HCC.out _ B3.out) | fail)
  go_wp2_with fail
  go_loopw [4] (fun x wr => ∃ X : Nat, x = .int .i64 X ∧ X < 4294967296 ∧ Hid (leadsTo t = (fixV (fun S => backTo t.deeds S t.deeds.length) X : Nat)) ∧ Hid (TabP wr g t.deeds.length (t.deeds.length * 32) t.deeds) ∧ Hid (Below Wb.heap.size Wb wr)) (fun x _ => 4294967296 - (intOf x).toNat)
  case atStart => exact ⟨X0, by first | rfl | rw [hsh] | rw [IntWalk.i64_left, hsh], hX0, HF, H3, B3⟩
  case round =>
    obtain ⟨X, rfl, hX, HX, HT, HBr⟩ := hrel
    go_wp2_with fail
    refine (impl_backStates t.deeds X g _ HT.out hl6 hX HTR.out).mono ?_; rintro e w4 ⟨rfl, b4⟩
    have B4 := hidI (bthen HBr.out b4); have T4 := hidI (HT.out.below b4); clear b4
    have hY : backTo t.deeds X t.deeds.length < 4294967296 := HG2.out X hX
    have HE := hidI (show X ||| backTo t.deeds X t.deeds.length = X → fixV (fun S => backTo t.deeds S t.deeds.length) X = X from fun h => fixV_end h)
    have HN := hidI (show X ||| backTo t.deeds X t.deeds.length ≠ X → fixV (fun S => backTo t.deeds S t.deeds.length) X = fixV (fun S => backTo t.deeds S t.deeds.length) (X ||| backTo t.deeds X t.deeds.length) from fun h => fixV_next HG2.out hX h)
    obtain ⟨Y, hYY⟩ : ∃ Y, Y = backTo t.deeds X t.deeds.length := ⟨_, rfl⟩
    rw [← hYY] at hY HE HN ⊢
    clear hYY
    have hor := or_i64 X Y (lt_63 hX) (lt_63 hY)
    have hZl := or_lt2_32 hX hY
    have HGr := hidI (or_grows (a := X) (b := Y))
    obtain ⟨Z, hZ⟩ : ∃ Z, Z = X ||| Y := ⟨_, rfl⟩
    rw [← hZ] at hor hZl HGr HE HN
    clear hZ
    by_cases e : Z = X
    · have HE' := hidI (HE.out e); subst e
      clear HN HE HGr
      go_wp2_with fail
      go_ret
      refine ⟨?_, HB.out.trans (B4.out.mono hle)⟩
      exact ret_int (by rw [HX.out, HE'.out])
    · have HN' := hidI (HN.out e); have hgr := HGr.out e
      clear HE HN HGr
      go_wp2_with fail
      go_roundw
      case rel => exact ⟨Z, rfl, hZl, hidI (by rw [HX.out, HN'.out]), T4, B4⟩
      case measure => simp [intOf]; omega

set_option maxRecDepth 100000 in
set_option maxHeartbeats 2000000 in
theorem spec_Reached (t : TaskM) (v : Value) (w : World) (ht : IsTask w v t) (hgl : t.goal.length ≤ 4000000) (hdl : ∀ d ∈ t.deeds, d.need.length ≤ 4000000) :
    Calls Try.prog 37 #[v] w fun e w' => e = .returned (.int .i64 (reached t)) ∧ Below w.heap.size w w' := by
  obtain ⟨go, gl, gc, ao, l, cp, hv, hs, h3, h4⟩ := id ht
  subst hv
  obtain ⟨Wb, hWb⟩ : ∃ Wb, Wb = w.alloc (.cells #[.int .i64 t.start, .slice go gl gc, .slice ao l cp] 39) := ⟨_, rfl⟩
  have bb : Below w.heap.size w Wb := by rw [hWb]; exact (Below.refl w.heap.size w).alloc (Nat.le_refl _) _
  have hsz : Wb.heap.size = w.heap.size + 1 := by rw [hWb]; simp
  have CC : ∀ W, Below Wb.heap.size Wb W → W.cell? ⟨w.heap.size, 0, none⟩ = some (.int .i64 t.start) ∧ W.cell? ⟨w.heap.size, 1, none⟩ = some (.slice go gl gc) ∧ W.cell? ⟨w.heap.size, 2, none⟩ = some (.slice ao l cp) := fun W hW =>
    ⟨(hW.cell (by simp; omega)).trans (by rw [hWb, cell_new]; rfl), (hW.cell (by simp; omega)).trans (by rw [hWb, cell_new]; rfl), (hW.cell (by simp; omega)).trans (by rw [hWb, cell_new]; rfl)⟩
  have HT0 := hidI (ht.below bb)
  have HB := hidI bb; have HCC := hidI CC; have HG := hidI (h3.below bb)
  have hle : w.heap.size ≤ Wb.heap.size := by omega
  obtain ⟨c0, c1, c2⟩ := CC Wb (Below.refl _ _)
  clear bb hsz CC ht h3 h4 hs
  cases hv : taskValid t
  · have HF := hidI (show reached t = -1 by unfold reached; rw [hv]; rfl)
    have HV := hidI hv; clear hv
    go_enter Try.func37, Try.ntmps37
    go_wp2_with fail
    rw [← hWb]; clear hWb
    refine (spec_TaskValid t _ _ HT0.out hgl hdl).mono ?_; rintro e w1 ⟨rfl, b1⟩; rw [HV.out]
    go_wp2_with fail
    go_ret
    exact ⟨ret_int HF.out.symm, HB.out.trans (b1.mono hle)⟩
  have HF := hidI (show reached t = (fixV (fun S => nextTo t.deeds S t.deeds.length) (2 ^ t.start.toNat) : Nat) by unfold reached; rw [hv]; rfl)
  obtain ⟨hsi, hgv, hl6, hdv⟩ := taskValid_parts hv
  have hr := tab_range2 hdv
  have hg : ∀ S, S < 4294967296 → (fun S => nextTo t.deeds S t.deeds.length) S < 4294967296 := fun S hS => nextTo_lt hr S _
  have HG2 := hidI hg; clear hg
  obtain ⟨s0, hs0, hs32⟩ := inS_true hsi
  have hX0 : 2 ^ t.start.toNat < 4294967296 := by rw [hs0, Int.toNat_natCast]; exact pow_lt2_32 hs32
  have hsh := shl1 (n := s0) (by omega)
  have hs00 : t.start.toNat = s0 := by rw [hs0, Int.toNat_natCast]
  rw [hs00] at HF hX0
  have HS0 := hidI hs0; rw [hs0] at c0 HCC hWb HT0 ⊢; clear hs0
  obtain ⟨X0, hX00⟩ : ∃ X0, X0 = 2 ^ s0 := ⟨_, rfl⟩
  rw [← hX00] at HF hX0 hsh
  clear hs00 hsi hX00
  have HDV := hidI hdv; have HTR := hidI hr
  have HN := hidI (show ∀ X : Nat, X < 4294967296 → statesNext t X = (nextTo t.deeds X t.deeds.length : Nat) from fun X hX => by unfold statesNext; rw [hv, inW_nat hX, Int.toNat_natCast]; rfl)
  have HV := hidI hv; clear hv hdv hr
  go_enter Try.func37, Try.ntmps37
  go_wp2_with fail
  rw [← hWb]; clear hWb
  refine (spec_TaskValid t _ _ HT0.out hgl hdl).mono ?_; rintro e w1 ⟨rfl, b1⟩; rw [HV.out]
  have B1 := hidI b1; clear b1 c0 c1 c2
  obtain ⟨c0, c1, c2⟩ := HCC.out _ B1.out
  go_wp2_with fail
  have B2 := B1
  go_loopw [3] (fun x wr => ∃ X : Nat, x = .int .i64 X ∧ X < 4294967296 ∧ Hid (reached t = (fixV (fun S => nextTo t.deeds S t.deeds.length) X : Nat)) ∧ Hid (Below Wb.heap.size Wb wr)) (fun x _ => 4294967296 - (intOf x).toNat)
  case atStart => exact ⟨X0, by first | rfl | rw [hsh] | rw [IntWalk.i64_left, hsh], hX0, HF, B2⟩
  case round =>
    clear c0 c1 c2 HF hsh hX0
    obtain ⟨X, rfl, hX, HX, HBr⟩ := hrel
    obtain ⟨c0, c1, c2⟩ := HCC.out _ HBr.out
    go_wp2_with fail
    refine (spec_StatesNext t X _ _ (HT0.out.below HBr.out) hgl hdl).mono ?_; rintro e w4 ⟨rfl, b4⟩; rw [HN.out X hX]
    have B4 := hidI (bthen HBr.out b4); clear b4
    have hY : nextTo t.deeds X t.deeds.length < 4294967296 := HG2.out X hX
    have HE := hidI (show X ||| nextTo t.deeds X t.deeds.length = X → fixV (fun S => nextTo t.deeds S t.deeds.length) X = X from fun h => fixV_end h)
    have HN := hidI (show X ||| nextTo t.deeds X t.deeds.length ≠ X → fixV (fun S => nextTo t.deeds S t.deeds.length) X = fixV (fun S => nextTo t.deeds S t.deeds.length) (X ||| nextTo t.deeds X t.deeds.length) from fun h => fixV_next HG2.out hX h)
    obtain ⟨Y, hYY⟩ : ∃ Y, Y = nextTo t.deeds X t.deeds.length := ⟨_, rfl⟩
    rw [← hYY] at hY HE HN ⊢
    clear hYY
    have hZl := or_lt2_32 hX hY
    have HL := hidI (fun w => spec_l1Either X Y w (lt_62 hX) (lt_62 hY))
    have HGr := hidI (or_grows (a := X) (b := Y))
    obtain ⟨Z, hZ⟩ : ∃ Z, Z = X ||| Y := ⟨_, rfl⟩
    rw [← hZ] at HL hZl HGr HE HN
    clear hZ
    by_cases e : Z = X
    · have HE' := hidI (HE.out e); subst e
      clear HN HE HGr
      go_wp2_with (go_at_call 64; refine (HL.out _).mono ?_; rintro e w' ⟨rfl, rfl⟩)
      go_ret
      refine ⟨?_, HB.out.trans (B4.out.mono hle)⟩
      exact ret_int (by rw [HX.out, HE'.out])
    · have HN' := hidI (HN.out e); have hgr := HGr.out e
      clear HE HN HGr
      go_wp2_with (go_at_call 64; refine (HL.out _).mono ?_; rintro e w' ⟨rfl, rfl⟩)
      go_roundw
      case rel => first | exact ⟨Z, rfl, hZl, hidI (HX.out.trans (congrArg _ HN'.out)), B4⟩ | ((repeat apply Exists.intro); exact ⟨⟨Z, rfl, hZl, hidI (HX.out.trans (congrArg _ HN'.out)), B4⟩, rfl⟩)
      case measure => simp [intOf]; omega

set_option maxRecDepth 100000 in
set_option maxHeartbeats 2000000 in
theorem spec_LeadsTo (t : TaskM) (v : Value) (w : World) (ht : IsTask w v t) (hgl : t.goal.length ≤ 4000000) (hdl : ∀ d ∈ t.deeds, d.need.length ≤ 4000000) :
    Calls Try.prog 39 #[v] w fun e w' => e = .returned (.int .i64 (leadsTo t)) ∧ Below w.heap.size w w' := by
  obtain ⟨go, gl, gc, ao, l, cp, hv, hs, h3, h4⟩ := id ht
  subst hv
  obtain ⟨Wb, hWb⟩ : ∃ Wb, Wb = w.alloc (.cells #[.int .i64 t.start, .slice go gl gc, .slice ao l cp] 39) := ⟨_, rfl⟩
  have bb : Below w.heap.size w Wb := by rw [hWb]; exact (Below.refl w.heap.size w).alloc (Nat.le_refl _) _
  have hsz : Wb.heap.size = w.heap.size + 1 := by rw [hWb]; simp
  have CC : ∀ W, Below Wb.heap.size Wb W → W.cell? ⟨w.heap.size, 0, none⟩ = some (.int .i64 t.start) ∧ W.cell? ⟨w.heap.size, 1, none⟩ = some (.slice go gl gc) ∧ W.cell? ⟨w.heap.size, 2, none⟩ = some (.slice ao l cp) := fun W hW =>
    ⟨(hW.cell (by simp; omega)).trans (by rw [hWb, cell_new]; rfl), (hW.cell (by simp; omega)).trans (by rw [hWb, cell_new]; rfl), (hW.cell (by simp; omega)).trans (by rw [hWb, cell_new]; rfl)⟩
  have HT0 := hidI (ht.below bb)
  have HB := hidI bb; have HCC := hidI CC; have HG := hidI (h3.below bb)
  have hle : w.heap.size ≤ Wb.heap.size := by omega
  obtain ⟨c0, c1, c2⟩ := CC Wb (Below.refl _ _)
  clear bb hsz CC ht h3 h4 hs
  cases hv : taskValid t
  · have HF := hidI (show leadsTo t = -1 by unfold leadsTo; rw [hv]; rfl)
    have HV := hidI hv; clear hv
    go_enter Try.func39, Try.ntmps39
    go_wp2_with fail
    rw [← hWb]; clear hWb
    refine (spec_TaskValid t _ _ HT0.out hgl hdl).mono ?_; rintro e w1 ⟨rfl, b1⟩; rw [HV.out]
    go_wp2_with fail
    go_ret
    exact ⟨ret_int HF.out.symm, HB.out.trans (b1.mono hle)⟩
  have HF := hidI (show leadsTo t = (fixV (fun S => backTo t.deeds S t.deeds.length) (truthTo t.goal 32) : Nat) by unfold leadsTo; rw [hv]; rfl)
  obtain ⟨hsi, hgv, hl6, hdv⟩ := taskValid_parts hv
  have hr := tab_range2 hdv
  have hg : ∀ S, S < 4294967296 → (fun S => backTo t.deeds S t.deeds.length) S < 4294967296 := fun S hS => backTo_lt S _
  have HG2 := hidI hg; clear hg
  have hX0 := truthTo_small t.goal (Nat.le_refl 32)
  have HCT := hidI (show codeTruth t.goal = (truthTo t.goal 32 : Nat) by unfold codeTruth; rw [hgv]; rfl)
  obtain ⟨X0, hX00⟩ : ∃ X0, X0 = truthTo t.goal 32 := ⟨_, rfl⟩
  rw [← hX00] at HF hX0 HCT
  clear hX00 hsi
  have HDV := hidI hdv; have HTR := hidI hr
  have HN := hidI (show ∀ X : Nat, X < 4294967296 → statesBack t X = (backTo t.deeds X t.deeds.length : Nat) from fun X hX => by unfold statesBack; rw [hv, inW_nat hX, Int.toNat_natCast]; rfl)
  have HV := hidI hv; clear hv hdv hr
  go_enter Try.func39, Try.ntmps39
  go_wp2_with fail
  rw [← hWb]; clear hWb
  refine (spec_TaskValid t _ _ HT0.out hgl hdl).mono ?_; rintro e w1 ⟨rfl, b1⟩; rw [HV.out]
  have B1 := hidI b1; clear b1 c0 c1 c2
  obtain ⟨c0, c1, c2⟩ := HCC.out _ B1.out
  go_wp2_with fail
  refine (spec_CodeTruth t.goal _ _ (HG.out.below B1.out) hgl).mono ?_; rintro e w2 ⟨rfl, b2⟩; rw [HCT.out]
  have B2 := hidI (bthen B1.out b2); clear b2
  go_wp2_with fail
  go_loopw [3] (fun x wr => ∃ X : Nat, x = .int .i64 X ∧ X < 4294967296 ∧ Hid (leadsTo t = (fixV (fun S => backTo t.deeds S t.deeds.length) X : Nat)) ∧ Hid (Below Wb.heap.size Wb wr)) (fun x _ => 4294967296 - (intOf x).toNat)
  case atStart => exact ⟨X0, by first | rfl | rw [hsh] | rw [IntWalk.i64_left, hsh], hX0, HF, B2⟩
  case round =>
    clear c0 c1 c2 HF
    obtain ⟨X, rfl, hX, HX, HBr⟩ := hrel
    obtain ⟨c0, c1, c2⟩ := HCC.out _ HBr.out
    go_wp2_with fail
    refine (spec_StatesBack t X _ _ (HT0.out.below HBr.out) hgl hdl).mono ?_; rintro e w4 ⟨rfl, b4⟩; rw [HN.out X hX]
    have B4 := hidI (bthen HBr.out b4); clear b4
    have hY : backTo t.deeds X t.deeds.length < 4294967296 := HG2.out X hX
    have HE := hidI (show X ||| backTo t.deeds X t.deeds.length = X → fixV (fun S => backTo t.deeds S t.deeds.length) X = X from fun h => fixV_end h)
    have HN := hidI (show X ||| backTo t.deeds X t.deeds.length ≠ X → fixV (fun S => backTo t.deeds S t.deeds.length) X = fixV (fun S => backTo t.deeds S t.deeds.length) (X ||| backTo t.deeds X t.deeds.length) from fun h => fixV_next HG2.out hX h)
    obtain ⟨Y, hYY⟩ : ∃ Y, Y = backTo t.deeds X t.deeds.length := ⟨_, rfl⟩
    rw [← hYY] at hY HE HN ⊢
    clear hYY
    have hZl := or_lt2_32 hX hY
    have HL := hidI (fun w => spec_l1Either X Y w (lt_62 hX) (lt_62 hY))
    have HGr := hidI (or_grows (a := X) (b := Y))
    obtain ⟨Z, hZ⟩ : ∃ Z, Z = X ||| Y := ⟨_, rfl⟩
    rw [← hZ] at HL hZl HGr HE HN
    clear hZ
    by_cases e : Z = X
    · have HE' := hidI (HE.out e); subst e
      clear HN HE HGr
      go_wp2_with (go_at_call 64; refine (HL.out _).mono ?_; rintro e w' ⟨rfl, rfl⟩)
      go_ret
      refine ⟨?_, HB.out.trans (B4.out.mono hle)⟩
      exact ret_int (by rw [HX.out, HE'.out])
    · have HN' := hidI (HN.out e); have hgr := HGr.out e
      clear HE HN HGr
      go_wp2_with (go_at_call 64; refine (HL.out _).mono ?_; rintro e w' ⟨rfl, rfl⟩)
      go_roundw
      case rel => first | exact ⟨Z, rfl, hZl, hidI (HX.out.trans (congrArg _ HN'.out)), B4⟩ | ((repeat apply Exists.intro); exact ⟨⟨Z, rfl, hZl, hidI (HX.out.trans (congrArg _ HN'.out)), B4⟩, rfl⟩)
      case measure => simp [intOf]; omega
end Go.Proofs.Ytballcjfgdolbaa
