/- StatesNext and StatesBack of the reference. -/
import Derived.Test.YtobpikjegfiklaaStatesP
import Derived.Test.YtobpikjegfiklaaSets
import Derived.Outline
namespace Go.Proofs.Ytobpikjegfiklaa
open Go.RowKit

theorem orRow_no (c : Nat → Bool) (p : Nat → Nat) (k X : Nat) (h : c k = false) : orRow c p (k + 1) X = orRow c p k X := by
  rw [orRow, h]; rfl
theorem orRow_yes (c : Nat → Bool) (p : Nat → Nat) (k X T : Nat) (h : c k = true) (hp : p k = T) : orRow c p (k + 1) X = orRow c p k X ||| 2 ^ T := by
  rw [orRow, h, hp]; rfl

theorem orRow_none (c : Nat → Bool) (p : Nat → Nat) (X : Nat) (h : ∀ k, c k = false) : ∀ n, orRow c p n X = X
  | 0 => rfl
  | n + 1 => by rw [orRow_no c p n X (h n)]; exact orRow_none c p X h n

theorem spec_l1InW (n : Int) (w : World) :
    Calls Try.prog 55 #[.int .i64 n, .int .i64 0, .int .i64 4294967295] w fun e w' => e = .returned (.bool (inW n)) ∧ w = w' := by
  cases h : inW n
  · have := of_decide_eq_false h
    exact (spec_l1In' n 0 4294967295 w (by omega))
  · have := of_decide_eq_true h
    exact (spec_l1In n 0 4294967295 w (by omega))


set_option maxRecDepth 100000 in
set_option maxHeartbeats 2000000 in
theorem spec_StatesBack (t : TaskM) (n : Int) (v : Value) (w : World) (ht : IsTask w v t) (hgl : t.goal.length ≤ 4000000) (hdl : ∀ d ∈ t.deeds, d.need.length ≤ 4000000) :
    Calls Try.prog 52 #[v, .int .i64 n] w fun e w' => e = .returned (.int .i64 (statesBack t n)) ∧ Below w.heap.size w w' := by
  obtain ⟨go, gl, gc, ao, l, cp, hv, hs, h3, h4⟩ := id ht
  subst hv
  obtain ⟨ao', cap, e, hcap, hmax, hcells⟩ := id h4
  injection e with e1 e2 e3
  subst e1; subst e2; subst e3
  unfold maxLen at hmax
  obtain ⟨Wb, hWb⟩ : ∃ Wb, Wb = w.alloc (.cells #[.int .i64 t.start, .slice go gl gc, .slice ao t.deeds.length cp] 35) := ⟨_, rfl⟩
  have bb : Below w.heap.size w Wb := by rw [hWb]; exact (Below.refl w.heap.size w).alloc (Nat.le_refl _) _
  have hsz : Wb.heap.size = w.heap.size + 1 := by rw [hWb]; simp
  have CC : ∀ W, Below Wb.heap.size Wb W → W.cell? ⟨w.heap.size, 0, none⟩ = some (.int .i64 t.start) ∧ W.cell? ⟨w.heap.size, 1, none⟩ = some (.slice go gl gc) ∧ W.cell? ⟨w.heap.size, 2, none⟩ = some (.slice ao t.deeds.length cp) := fun W hW =>
    ⟨(hW.cell (by simp; omega)).trans (by rw [hWb, cell_new]; rfl), (hW.cell (by simp; omega)).trans (by rw [hWb, cell_new]; rfl), (hW.cell (by simp; omega)).trans (by rw [hWb, cell_new]; rfl)⟩
  have HT0 := hidI (ht.below bb)
  have HB := hidI bb; have HCC := hidI CC
  have hle : w.heap.size ≤ Wb.heap.size := by omega
  have hlt : w.heap.size < Wb.heap.size := by omega
  obtain ⟨c0, c1, c2⟩ := CC Wb (Below.refl _ _)
  have Hcells := hidI hcells
  clear bb hsz CC ht h3 h4 hcells hs
  cases hv : taskValid t
  · have HF := hidI (show statesBack t n = -1 by unfold statesBack; rw [hv]; rfl)
    have HV := hidI hv; clear hv
    go_enter Try.func52, Try.ntmps52
    go_wp2_with fail
    rw [← hWb]; clear hWb
    refine (spec_TaskValid t _ _ HT0.out hgl hdl).mono ?_; rintro e w1 ⟨rfl, b1⟩; rw [HV.out]
    go_wp2_with fail
    go_ret
    exact ⟨ret_int HF.out.symm, HB.out.trans (b1.mono hle)⟩
  cases hin : inW n
  · have HF := hidI (show statesBack t n = -1 by unfold statesBack; rw [hv, hin]; rfl)
    have HV := hidI hv; have HI := hidI hin; clear hv hin
    go_enter Try.func52, Try.ntmps52
    go_wp2_with fail
    rw [← hWb]; clear hWb
    refine (spec_TaskValid t _ _ HT0.out hgl hdl).mono ?_; rintro e w1 ⟨rfl, b1⟩; rw [HV.out]
    go_wp2_with (go_at_call 55; refine (spec_l1InW _ _).mono ?_; rintro e w' ⟨rfl, rfl⟩; rw [HI.out])
    go_ret
    exact ⟨ret_int HF.out.symm, HB.out.trans (b1.mono hle)⟩
  obtain ⟨S, rfl, hS⟩ := inW_true hin
  have HF := hidI (show statesBack t S = (orTo (fun s k => 0 ≤ tabAt t.deeds (k * 32 + s) && S.testBit (tabAt t.deeds (k * 32 + s)).toNat) (fun s _ => s) t.deeds.length 32 : Nat) by unfold statesBack; rw [hv, hin, Int.toNat_natCast, backTo_or, orTo_swap]; rfl)
  obtain ⟨-, -, hl6, hdv⟩ := taskValid_parts hv
  have HDV := hidI hdv; have HTR := hidI (tab_range2 hdv)
  have HV := hidI hv; have HI := hidI hin; clear hv hin hdv
  have HS62 := hidI (lt_62 hS); have HS63 := hidI (lt_63 hS)
  go_enter Try.func52, Try.ntmps52
  go_wp2_with fail
  rw [← hWb]; clear hWb
  refine (spec_TaskValid t _ _ HT0.out hgl hdl).mono ?_; rintro e w1 ⟨rfl, b1⟩; rw [HV.out]
  have B1 := hidI b1; clear b1 c0 c1 c2
  go_wp2_with (go_at_call 55; refine (spec_l1InW _ _).mono ?_; rintro e w' ⟨rfl, rfl⟩; rw [HI.out])
  go_loopw [5, 6] (fun x i wr => ∃ s X : Nat, s ≤ 32 ∧ i = .int .i64 s ∧ x = .int .i64 X ∧ X < 4294967296 ∧ Hid (X = orTo (fun s k => 0 ≤ tabAt t.deeds (k * 32 + s) && S.testBit (tabAt t.deeds (k * 32 + s)).toNat) (fun s _ => s) t.deeds.length s) ∧ Hid (Below Wb.heap.size Wb wr)) (fun _ i _ => 32 - (intOf i).toNat)
  case atStart => exact ⟨0, 0, by omega, rfl, rfl, by omega, hidI rfl, B1⟩
  case round =>
    obtain ⟨s, X, hs, rfl, rfl, hX, HX, HBr⟩ := hrel
    rcases Nat.lt_or_ge s 32 with hs2 | hs2
    rotate_left
    · obtain rfl : s = 32 := by omega
      go_wp2_with fail
      go_ret
      exact ⟨ret_int (by rw [HF.out, HX.out]), HB.out.trans (HBr.out.mono hle)⟩
    have hs1 : (s : Int) < 32 := by omega
    go_wp2_with fail
    obtain ⟨wo, hwo⟩ : ∃ wo, wo = wr := ⟨_, rfl⟩
    rw [← hwo] at HBr ⊢; clear hwo
    go_loopw [5, 7] (fun x i wr => ∃ k Y : Nat, k ≤ t.deeds.length ∧ i = .int .i64 k ∧ x = .int .i64 Y ∧ Y < 4294967296 ∧ Hid (Y = orRow ((fun s k => 0 ≤ tabAt t.deeds (k * 32 + s) && S.testBit (tabAt t.deeds (k * 32 + s)).toNat) s) ((fun s _ => s) s) k X) ∧ Hid (Below Wb.heap.size Wb wr)) (fun _ i _ => t.deeds.length - (intOf i).toNat)
    case atStart => exact ⟨0, X, by omega, rfl, rfl, hX, hidI rfl, HBr⟩
    case round =>
      obtain ⟨k, Y, hk, rfl, rfl, hY, HY, HBi⟩ := hrel
      obtain ⟨c0, c1, c2⟩ := HCC.out _ HBi.out
      rcases Nat.lt_or_ge k t.deeds.length with hk2 | hk2
      rotate_left
      · obtain rfl : k = t.deeds.length := by omega
        go_wp2_with fail
        go_roundw
        case rel => exact ⟨s + 1, Y, by omega, by go_num, rfl, hY, hidI (by rw [HY.out, HX.out]; rfl), HBi⟩
        case measure => simp [intOf]; omega
      obtain ⟨d, hd⟩ : ∃ d, t.deeds[k]? = some d := ⟨_, List.getElem?_eq_getElem hk2⟩
      have HBw := hidI (HB.out.trans (HBi.out.mono hle))
      obtain ⟨db, doff, rfl, hdb, so, sl, sc, q0, q1, q2, q3, hde⟩ : ∃ db doff, ao = some ⟨db, doff, none⟩ ∧ db < w.heap.size ∧ ∃ so l cp, wr.cell? ⟨db, doff + k * 4, none⟩ = some (.slice so l cp) ∧ wr.cell? ⟨db, doff + k * 4 + 1, none⟩ = some (.int .i64 d.on) ∧ wr.cell? ⟨db, doff + k * 4 + 2, none⟩ = some (.int .i64 d.off) ∧ wr.cell? ⟨db, doff + k * 4 + 3, none⟩ = some (.int .i64 d.flip) ∧
          IsDeed wr (.agg #[.slice so l cp, .int .i64 d.on, .int .i64 d.off, .int .i64 d.flip]) d := by
        rcases Hcells.out with ⟨hnil, _⟩ | ⟨db, doff, rfl, h1, h2⟩
        · rw [hnil] at hd; simp at hd
        · obtain ⟨so, l, cp, a0, a1, a2, a3, a4⟩ := h2 k d hd
          exact ⟨db, doff, rfl, h1, so, l, cp, (HBw.out.cell (p := ⟨db, _, none⟩) h1).trans a0, (HBw.out.cell (p := ⟨db, _, none⟩) h1).trans a1, (HBw.out.cell (p := ⟨db, _, none⟩) h1).trans a2, (HBw.out.cell (p := ⟨db, _, none⟩) h1).trans a3, a4.below HBw.out⟩
      have hdm := HDV.out d (List.mem_of_getElem? hd)
      have HDE := hidI hde; have HDM := hidI hdm
      have hta := tabAt_at hd hs2
      have Hd := hidI hd
      clear hde hd
      have hk0 : (0 : Int) ≤ (k : Int) := by omega
      have hk1 : (k : Int) < (t.deeds.length : Int) := by omega
      rcases behind_lt d hdm s hs2 with hb | ⟨T, hT, hb⟩
      · have HN := hidI (orRow_no ((fun s k => 0 ≤ tabAt t.deeds (k * 32 + s) && S.testBit (tabAt t.deeds (k * 32 + s)).toNat) s) ((fun s _ => s) s) k X (by simp [hta, hb]))
        have HBE := hidI hb; clear hb hta hdm
        go_wp2_with fail
        refine (spec_l6Do d s _ _ HDE.out HDM.out hs2).mono ?_; rintro e w5 ⟨rfl, b5⟩; rw [HBE.out]
        have B5 := hidI (bthen HBi.out b5); clear b5
        go_wp2_with fail
        go_roundw
        case rel => exact ⟨k + 1, Y, by omega, by go_num, rfl, hY, hidI (by have h := HY.out.trans HN.out.symm; first | exact h | (rw [HBT.out] at h; exact h)), B5⟩
        case measure => simp [intOf]; omega
      · have HBE := hidI hb; have HTA := hidI (hta.trans hb); clear hb hta hdm
        cases hbt : S.testBit T
        · have HBT := hidI hbt; clear hbt
          have HN := hidI (orRow_no ((fun s k => 0 ≤ tabAt t.deeds (k * 32 + s) && S.testBit (tabAt t.deeds (k * 32 + s)).toNat) s) ((fun s _ => s) s) k X (by simp only [HTA.out, Int.toNat_natCast, HBT.out, Bool.and_false]))
          go_wp2_with fail
          refine (spec_l6Do d s _ _ HDE.out HDM.out hs2).mono ?_; rintro e w5 ⟨rfl, b5⟩; rw [HBE.out]
          have B5 := hidI (bthen HBi.out b5); clear b5
          go_wp2_with (first | (go_at_call 77; refine (spec_l1Bit S T _ HS63.out (by omega)).mono ?_; rintro e w' ⟨rfl, rfl⟩; rw [HBT.out]; simp only [b2_true, b2_false]))
          go_roundw
          case rel => exact ⟨k + 1, Y, by omega, by go_num, rfl, hY, hidI (HY.out.trans HN.out.symm), B5⟩
          case measure => simp [intOf]; omega
        have HBT := hidI hbt; clear hbt
        have hp := shl1 (n := s) (by omega)
        have hp2 := pow_lt2_32 hs2
        obtain ⟨P, hP⟩ : ∃ P : Nat, P = 2 ^ s := ⟨_, rfl⟩
        rw [← hP] at hp hp2
        have HP := hidI hP; clear hP
        have hor2 := or_lt2_32 hY hp2
        have HE := hidI (fun w => spec_l1Either Y P w (lt_62 hY) (lt_62 hp2))
        have HN := hidI (orRow_yes ((fun s k => 0 ≤ tabAt t.deeds (k * 32 + s) && S.testBit (tabAt t.deeds (k * 32 + s)).toNat) s) ((fun s _ => s) s) k X s (by simp only [HTA.out, Int.toNat_natCast, HBT.out, decide_eq_true (Int.natCast_nonneg _), Bool.and_true]) (by simp only [HTA.out, Int.toNat_natCast]))
        clear hp2
        go_wp2_with fail
        refine (spec_l6Do d s _ _ HDE.out HDM.out hs2).mono ?_; rintro e w5 ⟨rfl, b5⟩; rw [HBE.out]
        have B5 := hidI (bthen HBi.out b5); clear b5
        go_wp2_with (first | (go_at_call 68; refine (HE.out _).mono ?_; rintro e w' ⟨rfl, rfl⟩) | (go_at_call 77; refine (spec_l1Bit S T _ HS63.out (by omega)).mono ?_; rintro e w' ⟨rfl, rfl⟩; rw [HBT.out]; simp only [b2_true, b2_false]))
        go_roundw
        case rel => exact ⟨k + 1, _, by omega, by go_num, rfl, hor2, hidI (by have h := HN.out; rw [← HY.out, ← HP.out] at h; first | exact h.symm | (rw [HBT.out] at h; exact h.symm)), B5⟩
        case measure => simp [intOf]; omega
end Go.Proofs.Ytobpikjegfiklaa
