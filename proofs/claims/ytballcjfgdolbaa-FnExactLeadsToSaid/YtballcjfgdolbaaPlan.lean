/- PlanRun, of the program and of the reference. -/
import Derived.Test.YtballcjfgdolbaaTask
import Derived.Outline
import Derived.BigQuiet
import Derived.Deep.RegionHeld3
namespace Go.Proofs.Ytballcjfgdolbaa
open Go.RowKit

/-- One press: the deed of number k, or -1. -/
def planStep (ds : List DeedM) (k : Int) (S : Nat) : Int := if k < 0 then -1 else match ds[k.toNat]? with
  | some d => behind d S
  | none => -1

def planGo (ds : List DeedM) : List Int → Nat → Int
  | [], S => S
  | k :: l, S => if planStep ds k S < 0 then -1 else planGo ds l (planStep ds k S).toNat

def planRun (t : TaskM) (n : Int) (plan : List Int) : Int := if taskValid t && inS n && decide (plan.length ≤ 40) then planGo t.deeds plan n.toNat else -1

theorem plan_low {ds : List DeedM} {k : Int} {l : List Int} {S : Nat} (h : k < 0) : planGo ds (k :: l) S = -1 := by
  rw [planGo, planStep, if_pos h]; rfl
theorem plan_high {ds : List DeedM} {q : Nat} {l : List Int} {S : Nat} (h : ds.length ≤ q) : planGo ds ((q : Int) :: l) S = -1 := by
  have e : planStep ds (q : Int) S = -1 := by rw [planStep, if_neg (by omega), Int.toNat_natCast, List.getElem?_eq_none h]
  rw [planGo, e]; rfl
theorem plan_at {ds : List DeedM} {q : Nat} {l : List Int} {S : Nat} {d : DeedM} (h : ds[q]? = some d) : planGo ds ((q : Int) :: l) S = if behind d S < 0 then -1 else planGo ds l (behind d S).toNat := by
  have e : planStep ds (q : Int) S = behind d S := by rw [planStep, if_neg (by omega), Int.toNat_natCast, h]
  rw [planGo, e]

theorem taskValid_parts {t : TaskM} (h : taskValid t = true) : inS t.start = true ∧ codeValid t.goal = true ∧ t.deeds.length ≤ 6 ∧ ∀ d ∈ t.deeds, deedValid d = true := by
  unfold taskValid at h
  simp only [Bool.and_eq_true, decide_eq_true_eq, List.all_eq_true] at h
  exact ⟨h.1.1.1, h.1.1.2, h.1.2, h.2⟩

set_option maxHeartbeats 2000000 in
theorem impl_PlanRun (t : TaskM) (n : Int) (plan : List Int) (v u : Value) (w : World) (ht : IsTask w v t) (hp : IntS w u plan) :
    Calls Try.prog 57 #[v, .int .i64 n, u] w fun e w' => e = .returned (.int .i64 (planRun t n plan)) ∧ Below w.heap.size w w' := by
  obtain ⟨go, gl, gc, ao, l, cp, hv, hs, h3, h4⟩ := id ht
  subst hv
  obtain ⟨hz, po, pcap, rfl, hpcap, hpmax, hpc⟩ := id hp
  obtain ⟨ao', cap, e, hcap, hmax, hcells⟩ := id h4
  injection e with e1 e2 e3
  subst e1; subst e2; subst e3
  unfold maxLen at hmax hpmax
  obtain ⟨Wb, hWb⟩ : ∃ Wb, Wb = w.alloc (.cells #[.int .i64 t.start, .slice go gl gc, .slice ao t.deeds.length cp] 39) := ⟨_, rfl⟩
  have bb : Below w.heap.size w Wb := by rw [hWb]; exact (Below.refl w.heap.size w).alloc (Nat.le_refl _) _
  have hsz : Wb.heap.size = w.heap.size + 1 := by rw [hWb]; simp
  have CC : ∀ W, Below Wb.heap.size Wb W → W.cell? ⟨w.heap.size, 0, none⟩ = some (.int .i64 t.start) ∧ W.cell? ⟨w.heap.size, 1, none⟩ = some (.slice go gl gc) ∧ W.cell? ⟨w.heap.size, 2, none⟩ = some (.slice ao t.deeds.length cp) := fun W hW =>
    ⟨(hW.cell (by simp; omega)).trans (by rw [hWb, cell_new]; rfl), (hW.cell (by simp; omega)).trans (by rw [hWb, cell_new]; rfl), (hW.cell (by simp; omega)).trans (by rw [hWb, cell_new]; rfl)⟩
  have HT0 := hidI (ht.below bb)
  have HB := hidI bb; have HW := hidI hWb; have HZ := hidI hsz; have HCC := hidI CC
  have hlt : w.heap.size < Wb.heap.size := by omega
  obtain ⟨c0, c1, c2⟩ := CC Wb (Below.refl _ _)
  have Hpc := hidI hpc; have Hcells := hidI hcells; have Hzz := hidI hz
  clear bb hsz h3 h4 CC ht hp hpc hcells hz
  cases hv : taskValid t
  · have HF := hidI (show planRun t n plan = -1 by unfold planRun; rw [hv]; rfl)
    have HV := hidI hv; clear hv
    go_enter Try.func57, Try.ntmps57
    go_wp2_with fail
    rw [← hWb]; clear hWb
    refine (impl_TaskValid t _ _ HT0.out).mono ?_; rintro e w1 ⟨rfl, b1⟩; rw [HV.out]
    go_wp2_with fail
    go_ret
    exact ⟨ret_int HF.out.symm, HB.out.trans (b1.mono (by omega))⟩
  cases hin : inS n
  · have HF := hidI (show planRun t n plan = -1 by unfold planRun; rw [hv, hin]; rfl)
    have HV := hidI hv; clear hv
    go_enter Try.func57, Try.ntmps57
    go_wp2_with fail
    rw [← hWb]; clear hWb
    refine (impl_TaskValid t _ _ HT0.out).mono ?_; rintro e w1 ⟨rfl, b1⟩; rw [HV.out]
    go_wp2_with (go_at_call 71; refine (impl_stateOkS _ _).mono ?_; rintro e w' ⟨rfl, rfl⟩)
    go_ret
    exact ⟨ret_int HF.out.symm, HB.out.trans (b1.mono (by omega))⟩
  rcases Nat.lt_or_ge 40 plan.length with hl | hl
  · have HF := hidI (show planRun t n plan = -1 by unfold planRun; rw [hv, hin, decide_eq_false (by omega : ¬ plan.length ≤ 40)]; rfl)
    have HV := hidI hv; clear hv
    go_enter Try.func57, Try.ntmps57
    go_wp2_with fail
    rw [← hWb]; clear hWb
    refine (impl_TaskValid t _ _ HT0.out).mono ?_; rintro e w1 ⟨rfl, b1⟩; rw [HV.out]
    go_wp2_with (go_at_call 71; refine (impl_stateOkS _ _).mono ?_; rintro e w' ⟨rfl, rfl⟩)
    go_ret
    exact ⟨ret_int HF.out.symm, HB.out.trans (b1.mono (by omega))⟩
  have HF := hidI (show planRun t n plan = planGo t.deeds (plan.drop 0) n.toNat by unfold planRun; rw [hv, hin, decide_eq_true hl]; rfl)
  obtain ⟨-, -, hl6, hdv⟩ := taskValid_parts hv
  have HDV := hidI hdv
  have HV := hidI hv; clear hv hdv
  obtain ⟨S0, rfl, hS0⟩ := inS_true (by assumption)
  rw [Int.toNat_natCast] at HF
  go_enter Try.func57, Try.ntmps57
  go_wp2_with fail
  rw [← hWb]; clear hWb
  refine (impl_TaskValid t _ _ HT0.out).mono ?_; rintro e w1 ⟨rfl, b1⟩; rw [HV.out]
  have B1 := hidI b1; clear b1
  clear c0 c1 c2
  obtain ⟨c0, c1, c2⟩ := HCC.out _ B1.out
  go_wp2_with (go_at_call 71; refine (impl_stateOkS _ _).mono ?_; rintro e w' ⟨rfl, rfl⟩)
  go_loopw [1, 24] (fun s i wr => ∃ k S : Nat, k ≤ plan.length ∧ i = .int .i64 k ∧ s = .int .i64 S ∧ S < 32 ∧ Hid (planRun t S0 plan = planGo t.deeds (plan.drop k) S) ∧ Hid (Below Wb.heap.size Wb wr)) (fun _ i _ => plan.length - (intOf i).toNat)
  case atStart => exact ⟨0, S0, by omega, rfl, rfl, hS0, HF, B1⟩
  case round =>
    clear HF c0 c1 c2
    obtain ⟨k, S, hk, rfl, rfl, hS, HR, HBr⟩ := hrel
    obtain ⟨c0, c1, c2⟩ := HCC.out _ HBr.out
    have HBw := hidI (HB.out.trans (HBr.out.mono (by omega)))
    obtain ⟨z, Hd, Hg, HP⟩ := at_k plan k
    have hsr := HBr.out.size
    rcases Nat.lt_or_ge k plan.length with hlt2 | hlt2
    rotate_left
    · go_wp2_with fail
      go_ret
      exact ⟨ret_int (by rw [HR.out, List.drop_of_length_le (by omega)]; rfl), HBw.out⟩
    obtain ⟨pb, poff, rfl, hpb, hpcell⟩ : ∃ pb poff, po = some ⟨pb, poff, none⟩ ∧ pb < w.heap.size ∧ wr.cell? ⟨pb, poff + k, none⟩ = some (.int .i64 z) := by
      rcases Hpc.out with ⟨rfl, _⟩ | ⟨pb, poff, rfl, h1, h2⟩
      · simp at hlt2
      · exact ⟨pb, poff, rfl, h1, by rw [← Hg.out hlt2]; exact (HBw.out.cell (p := ⟨pb, poff + k, none⟩) h1).trans (h2 k hlt2)⟩
    have hz64 := HP _ Hzz.out hlt2
    unfold I64 at hz64
    clear HP
    by_cases hneg : z < 0
    · have HPL := hidI (plan_low (ds := t.deeds) (l := plan.drop (k + 1)) (S := S) hneg)
      go_wp2_with fail
      go_ret
      exact ⟨ret_int (by rw [HR.out, Hd.out hlt2, HPL.out]), HBw.out.trans (Below.refl _ _)⟩
    obtain ⟨q, rfl⟩ := Int.eq_ofNat_of_zero_le (by omega : 0 ≤ z)
    by_cases hq : t.deeds.length ≤ q
    · have HPH := hidI (plan_high (l := plan.drop (k + 1)) (S := S) hq)
      go_wp2_with fail
      go_ret
      exact ⟨ret_int (by rw [HR.out, Hd.out hlt2, HPH.out]), HBw.out.trans (Below.refl _ _)⟩
    obtain ⟨d, hd⟩ : ∃ d, t.deeds[q]? = some d := ⟨_, List.getElem?_eq_getElem (by omega)⟩
    obtain ⟨db, doff, rfl, hdb, so, sl, sc, q0, q1, q2, q3, hde⟩ : ∃ db doff, ao = some ⟨db, doff, none⟩ ∧ db < w.heap.size ∧ ∃ so l cp, wr.cell? ⟨db, doff + q * 4, none⟩ = some (.slice so l cp) ∧ wr.cell? ⟨db, doff + q * 4 + 1, none⟩ = some (.int .i64 d.on) ∧ wr.cell? ⟨db, doff + q * 4 + 2, none⟩ = some (.int .i64 d.off) ∧ wr.cell? ⟨db, doff + q * 4 + 3, none⟩ = some (.int .i64 d.flip) ∧
        IsDeed wr (.agg #[.slice so l cp, .int .i64 d.on, .int .i64 d.off, .int .i64 d.flip]) d := by
      rcases Hcells.out with ⟨hnil, _⟩ | ⟨db, doff, rfl, h1, h2⟩
      · rw [hnil] at hd; simp at hd
      · obtain ⟨so, l, cp, a0, a1, a2, a3, a4⟩ := h2 q d hd
        exact ⟨db, doff, rfl, h1, so, l, cp, (HBw.out.cell (p := ⟨db, _, none⟩) h1).trans a0, (HBw.out.cell (p := ⟨db, _, none⟩) h1).trans a1, (HBw.out.cell (p := ⟨db, _, none⟩) h1).trans a2, (HBw.out.cell (p := ⟨db, _, none⟩) h1).trans a3, a4.below HBw.out⟩
    have hdm := HDV.out d (List.mem_of_getElem? hd)
    have HDE := hidI hde; have HPA := hidI (plan_at (l := plan.drop (k + 1)) (S := S) hd); have HDM := hidI hdm
    clear hde hd
    rcases behind_lt d hdm S hS with hb | ⟨T, hT, hb⟩
    all_goals
      have HBE := hidI hb; clear hb
      go_wp2_with fail
      refine (impl_behindDeed d S _ _ HDE.out HDM.out hS).mono ?_; rintro e w5 ⟨rfl, b5⟩; rw [HBE.out]
      have B5 := hidI (bthen HBr.out b5); clear b5
      go_wp2_with fail
    · go_ret
      exact ⟨ret_int (by rw [HR.out, Hd.out hlt2, HPA.out, HBE.out]; rfl), HB.out.trans (B5.out.mono (by omega))⟩
    · go_roundw
      case rel => exact ⟨k + 1, T, by omega, by go_num, by go_num, hT, hidI (by rw [HR.out, Hd.out hlt2, HPA.out, HBE.out, if_neg (by omega), Int.toNat_natCast]), B5⟩
      case measure => simp [intOf]; omega

set_option maxHeartbeats 2000000 in
theorem spec_PlanRun (t : TaskM) (n : Int) (plan : List Int) (v u : Value) (w : World) (ht : IsTask w v t) (hp : IntS w u plan) (hgl : t.goal.length ≤ 4000000) (hdl : ∀ d ∈ t.deeds, d.need.length ≤ 4000000) :
    Calls Try.prog 54 #[v, .int .i64 n, u] w fun e w' => e = .returned (.int .i64 (planRun t n plan)) ∧ Below w.heap.size w w' := by
  obtain ⟨go, gl, gc, ao, l, cp, hv, hs, h3, h4⟩ := id ht
  subst hv
  obtain ⟨hz, po, pcap, rfl, hpcap, hpmax, hpc⟩ := id hp
  obtain ⟨ao', cap, e, hcap, hmax, hcells⟩ := id h4
  injection e with e1 e2 e3
  subst e1; subst e2; subst e3
  unfold maxLen at hmax hpmax
  obtain ⟨Wb, hWb⟩ : ∃ Wb, Wb = w.alloc (.cells #[.int .i64 t.start, .slice go gl gc, .slice ao t.deeds.length cp] 39) := ⟨_, rfl⟩
  have bb : Below w.heap.size w Wb := by rw [hWb]; exact (Below.refl w.heap.size w).alloc (Nat.le_refl _) _
  have hsz : Wb.heap.size = w.heap.size + 1 := by rw [hWb]; simp
  have CC : ∀ W, Below Wb.heap.size Wb W → W.cell? ⟨w.heap.size, 0, none⟩ = some (.int .i64 t.start) ∧ W.cell? ⟨w.heap.size, 1, none⟩ = some (.slice go gl gc) ∧ W.cell? ⟨w.heap.size, 2, none⟩ = some (.slice ao t.deeds.length cp) := fun W hW =>
    ⟨(hW.cell (by simp; omega)).trans (by rw [hWb, cell_new]; rfl), (hW.cell (by simp; omega)).trans (by rw [hWb, cell_new]; rfl), (hW.cell (by simp; omega)).trans (by rw [hWb, cell_new]; rfl)⟩
  have HT0 := hidI (ht.below bb)
  have HB := hidI bb; have HW := hidI hWb; have HZ := hidI hsz; have HCC := hidI CC
  have hlt : w.heap.size < Wb.heap.size := by omega
  obtain ⟨c0, c1, c2⟩ := CC Wb (Below.refl _ _)
  have Hpc := hidI hpc; have Hcells := hidI hcells; have Hzz := hidI hz
  clear bb hsz h3 h4 CC ht hp hpc hcells hz
  cases hv : taskValid t
  · have HF := hidI (show planRun t n plan = -1 by unfold planRun; rw [hv]; rfl)
    have HV := hidI hv; clear hv
    go_enter Try.func54, Try.ntmps54
    go_wp2_with fail
    rw [← hWb]; clear hWb
    refine (spec_TaskValid t _ _ HT0.out hgl hdl).mono ?_; rintro e w1 ⟨rfl, b1⟩; rw [HV.out]
    go_wp2_with fail
    go_ret
    exact ⟨ret_int HF.out.symm, HB.out.trans (b1.mono (by omega))⟩
  cases hin : inS n
  · have HF := hidI (show planRun t n plan = -1 by unfold planRun; rw [hv, hin]; rfl)
    have HV := hidI hv; clear hv
    go_enter Try.func54, Try.ntmps54
    go_wp2_with fail
    rw [← hWb]; clear hWb
    refine (spec_TaskValid t _ _ HT0.out hgl hdl).mono ?_; rintro e w1 ⟨rfl, b1⟩; rw [HV.out]
    go_wp2_with (go_at_call 61; refine (spec_l1InS _ _).mono ?_; rintro e w' ⟨rfl, rfl⟩)
    go_ret
    exact ⟨ret_int HF.out.symm, HB.out.trans (b1.mono (by omega))⟩
  rcases Nat.lt_or_ge 40 plan.length with hl | hl
  · have HF := hidI (show planRun t n plan = -1 by unfold planRun; rw [hv, hin, decide_eq_false (by omega : ¬ plan.length ≤ 40)]; rfl)
    have HV := hidI hv; clear hv
    go_enter Try.func54, Try.ntmps54
    go_wp2_with fail
    rw [← hWb]; clear hWb
    refine (spec_TaskValid t _ _ HT0.out hgl hdl).mono ?_; rintro e w1 ⟨rfl, b1⟩; rw [HV.out]
    go_wp2_with (go_at_call 61; refine (spec_l1InS _ _).mono ?_; rintro e w' ⟨rfl, rfl⟩)
    go_ret
    exact ⟨ret_int HF.out.symm, HB.out.trans (b1.mono (by omega))⟩
  have HF := hidI (show planRun t n plan = planGo t.deeds (plan.drop 0) n.toNat by unfold planRun; rw [hv, hin, decide_eq_true hl]; rfl)
  obtain ⟨-, -, hl6, hdv⟩ := taskValid_parts hv
  have HDV := hidI hdv
  have HV := hidI hv; clear hv hdv
  obtain ⟨S0, rfl, hS0⟩ := inS_true (by assumption)
  rw [Int.toNat_natCast] at HF
  go_enter Try.func54, Try.ntmps54
  go_wp2_with fail
  rw [← hWb]; clear hWb
  refine (spec_TaskValid t _ _ HT0.out hgl hdl).mono ?_; rintro e w1 ⟨rfl, b1⟩; rw [HV.out]
  have B1 := hidI b1; clear b1
  clear c0 c1 c2
  obtain ⟨c0, c1, c2⟩ := HCC.out _ B1.out
  go_wp2_with (go_at_call 61; refine (spec_l1InS _ _).mono ?_; rintro e w' ⟨rfl, rfl⟩)
  go_loopw [1, 7] (fun s i wr => ∃ k S : Nat, k ≤ plan.length ∧ i = .int .i64 k ∧ s = .int .i64 S ∧ S < 32 ∧ Hid (planRun t S0 plan = planGo t.deeds (plan.drop k) S) ∧ Hid (Below Wb.heap.size Wb wr)) (fun _ i _ => plan.length - (intOf i).toNat)
  case atStart => exact ⟨0, S0, by omega, rfl, rfl, hS0, HF, B1⟩
  case round =>
    clear HF c0 c1 c2
    obtain ⟨k, S, hk, rfl, rfl, hS, HR, HBr⟩ := hrel
    obtain ⟨c0, c1, c2⟩ := HCC.out _ HBr.out
    have HBw := hidI (HB.out.trans (HBr.out.mono (by omega)))
    obtain ⟨z, Hd, Hg, HP⟩ := at_k plan k
    have hsr := HBr.out.size
    rcases Nat.lt_or_ge k plan.length with hlt2 | hlt2
    rotate_left
    · go_wp2_with fail
      go_ret
      exact ⟨ret_int (by rw [HR.out, List.drop_of_length_le (by omega)]; rfl), HBw.out⟩
    obtain ⟨pb, poff, rfl, hpb, hpcell⟩ : ∃ pb poff, po = some ⟨pb, poff, none⟩ ∧ pb < w.heap.size ∧ wr.cell? ⟨pb, poff + k, none⟩ = some (.int .i64 z) := by
      rcases Hpc.out with ⟨rfl, _⟩ | ⟨pb, poff, rfl, h1, h2⟩
      · simp at hlt2
      · exact ⟨pb, poff, rfl, h1, by rw [← Hg.out hlt2]; exact (HBw.out.cell (p := ⟨pb, poff + k, none⟩) h1).trans (h2 k hlt2)⟩
    have hz64 := HP _ Hzz.out hlt2
    unfold I64 at hz64
    clear HP
    by_cases hneg : z < 0
    · have HPL := hidI (plan_low (ds := t.deeds) (l := plan.drop (k + 1)) (S := S) hneg)
      go_wp2_with fail
      go_quiet ((first | (go_at_call 61; exact quiet_same (spec_l1In' _ _ _ _ (by omega)))))
      go_wp2_with fail
      go_ret
      exact ⟨ret_int (by rw [HR.out, Hd.out hlt2, HPL.out]), HBw.out.trans ((bdraw _ _).mono HBw.out.size)⟩
    obtain ⟨q, rfl⟩ := Int.eq_ofNat_of_zero_le (by omega : 0 ≤ z)
    by_cases hq : t.deeds.length ≤ q
    · have HPH := hidI (plan_high (l := plan.drop (k + 1)) (S := S) hq)
      go_wp2_with fail
      go_quiet ((first | (go_at_call 61; exact quiet_same (spec_l1In' _ _ _ _ (by omega)))))
      go_wp2_with fail
      go_ret
      exact ⟨ret_int (by rw [HR.out, Hd.out hlt2, HPH.out]), HBw.out.trans ((bdraw _ _).mono HBw.out.size)⟩
    obtain ⟨d, hd⟩ : ∃ d, t.deeds[q]? = some d := ⟨_, List.getElem?_eq_getElem (by omega)⟩
    obtain ⟨db, doff, rfl, hdb, so, sl, sc, q0, q1, q2, q3, hde⟩ : ∃ db doff, ao = some ⟨db, doff, none⟩ ∧ db < w.heap.size ∧ ∃ so l cp, wr.cell? ⟨db, doff + q * 4, none⟩ = some (.slice so l cp) ∧ wr.cell? ⟨db, doff + q * 4 + 1, none⟩ = some (.int .i64 d.on) ∧ wr.cell? ⟨db, doff + q * 4 + 2, none⟩ = some (.int .i64 d.off) ∧ wr.cell? ⟨db, doff + q * 4 + 3, none⟩ = some (.int .i64 d.flip) ∧
        IsDeed wr (.agg #[.slice so l cp, .int .i64 d.on, .int .i64 d.off, .int .i64 d.flip]) d := by
      rcases Hcells.out with ⟨hnil, _⟩ | ⟨db, doff, rfl, h1, h2⟩
      · rw [hnil] at hd; simp at hd
      · obtain ⟨so, l, cp, a0, a1, a2, a3, a4⟩ := h2 q d hd
        exact ⟨db, doff, rfl, h1, so, l, cp, (HBw.out.cell (p := ⟨db, _, none⟩) h1).trans a0, (HBw.out.cell (p := ⟨db, _, none⟩) h1).trans a1, (HBw.out.cell (p := ⟨db, _, none⟩) h1).trans a2, (HBw.out.cell (p := ⟨db, _, none⟩) h1).trans a3, a4.below HBw.out⟩
    have hdm := HDV.out d (List.mem_of_getElem? hd)
    have HDE := hidI hde; have HPA := hidI (plan_at (l := plan.drop (k + 1)) (S := S) hd); have HDM := hidI hdm
    clear hde hd
    rcases behind_lt d hdm S hS with hb | ⟨T, hT, hb⟩
    all_goals
      have HBE := hidI hb; clear hb
      have hi0 : (0 : Int) ≤ (q : Int) := by omega
      have hi1 : (q : Int) < (t.deeds.length : Int) := by omega
      have hi2 : q < t.deeds.length := by omega
      have hdb2 : db < wr.heap.size := by omega
      have hpb2 : pb < wr.heap.size := by omega
      have hlb2 : w.heap.size < wr.heap.size := by omega
      go_wp2_with fail
      go_quiet ((first | (go_at_call 61; exact quiet_same (spec_l1In _ _ _ _ (by omega)))))
      go_wp2_with fail
      go_region_held3 (fun W => W.cell? ⟨w.heap.size, 2, none⟩ = some (.slice (some ⟨db, doff, none⟩) t.deeds.length cp) ∧ W.cell? ⟨pb, poff + k, none⟩ = some (.int .i64 (q : Int)) ∧ W.cell? ⟨db, doff + q * 4, none⟩ = some (.slice so sl sc) ∧ W.cell? ⟨db, doff + q * 4 + 1, none⟩ = some (.int .i64 d.on) ∧ W.cell? ⟨db, doff + q * 4 + 2, none⟩ = some (.int .i64 d.off) ∧ W.cell? ⟨db, doff + q * 4 + 3, none⟩ = some (.int .i64 d.flip)) (first | exact ⟨c2, hpcell, q0, q1, q2, q3⟩ | (refine ⟨?_, ?_, ?_, ?_, ?_, ?_⟩ <;> assumption)) (first | (go_at_call 62; refine (spec_l6Do d S _ _ (HDE.out.below (bdraw _ _).drew) HDM.out hS).mono ?_; rintro e w5 ⟨rfl, b5⟩; rw [HBE.out]; have N5 := bthen (bdraw _ _).drew b5; have B5 := hidI (bthen HBr.out N5); have e2 := (N5.cell (p := ⟨_, _, none⟩) hlb2).trans c2; have ep := (N5.cell (p := ⟨_, _, none⟩) hpb2).trans hpcell; have f0 := (N5.cell (p := ⟨_, _, none⟩) hdb2).trans q0; have f1 := (N5.cell (p := ⟨_, _, none⟩) hdb2).trans q1; have f2 := (N5.cell (p := ⟨_, _, none⟩) hdb2).trans q2; have f3 := (N5.cell (p := ⟨_, _, none⟩) hdb2).trans q3; clear b5 N5) | fail)
      go_wp2_with fail
    · go_ret
      exact ⟨ret_int (by rw [HR.out, Hd.out hlt2, HPA.out, HBE.out]; rfl), HB.out.trans (B5.out.mono (by omega))⟩
    · go_roundw
      case rel => exact ⟨k + 1, T, by omega, by go_num, by go_num, hT, hidI (by rw [HR.out, Hd.out hlt2, HPA.out, HBE.out, if_neg (by omega), Int.toNat_natCast]), B5⟩
      case measure => simp [intOf]; omega

end Go.Proofs.Ytballcjfgdolbaa
