/- TaskValid, of the program and of the reference. -/
import Derived.Test.YtndbfdgflflfpaaDo
import Derived.Outline
namespace Go.Proofs.Ytndbfdgflflfpaa
open Go.RowKit

/-- v is a slice of deeds that reads as ds in w. -/
def DeedS (w : World) (v : Value) (ds : List DeedM) : Prop :=
  ∃ ao cap, v = .slice ao ds.length cap ∧ ds.length ≤ cap ∧ cap ≤ maxLen ∧ (ds = [] ∧ (ao = none → cap = 0) ∨ ∃ b off, ao = some ⟨b, off, none⟩ ∧ b < w.heap.size ∧
    ∀ k d, ds[k]? = some d → ∃ so l cp, w.cell? ⟨b, off + k * 4, none⟩ = some (.slice so l cp) ∧ w.cell? ⟨b, off + k * 4 + 1, none⟩ = some (.int .i64 d.on) ∧ w.cell? ⟨b, off + k * 4 + 2, none⟩ = some (.int .i64 d.off) ∧ w.cell? ⟨b, off + k * 4 + 3, none⟩ = some (.int .i64 d.flip) ∧
      IsDeed w (.agg #[.slice so l cp, .int .i64 d.on, .int .i64 d.off, .int .i64 d.flip]) d)

theorem DeedS.below {w w' : World} {v : Value} {ds : List DeedM} (h : DeedS w v ds) (hb : Below w.heap.size w w') : DeedS w' v ds := by
  obtain ⟨ao, cap, rfl, h1, h2, h3⟩ := h
  refine ⟨ao, cap, rfl, h1, h2, ?_⟩
  rcases h3 with h3 | ⟨b, off, rfl, h4, h5⟩
  · exact .inl h3
  · refine .inr ⟨b, off, rfl, Nat.lt_of_lt_of_le h4 hb.size, fun k d hk => ?_⟩
    obtain ⟨so, l, cp, c0, c1, c2, c3, c4⟩ := h5 k d hk
    exact ⟨so, l, cp, (hb.cell (p := ⟨b, _, none⟩) h4).trans c0, (hb.cell (p := ⟨b, _, none⟩) h4).trans c1, (hb.cell (p := ⟨b, _, none⟩) h4).trans c2, (hb.cell (p := ⟨b, _, none⟩) h4).trans c3, c4.below hb⟩

structure TaskM where
  start : Int
  goal : List Int
  deeds : List DeedM

def IsTask (w : World) (v : Value) (t : TaskM) : Prop := ∃ go gl gc ao l cp, v = .agg #[.int .i64 t.start, .slice go gl gc, .slice ao l cp] ∧ I64 t.start ∧ IntS w (.slice go gl gc) t.goal ∧ DeedS w (.slice ao l cp) t.deeds

theorem IsTask.below {w w' : World} {v : Value} {t : TaskM} (h : IsTask w v t) (hb : Below w.heap.size w w') : IsTask w' v t := by
  obtain ⟨go, gl, gc, ao, l, cp, h1, h2, h3, h4⟩ := h
  exact ⟨go, gl, gc, ao, l, cp, h1, h2, h3.below hb, h4.below hb⟩

def taskValid (t : TaskM) : Bool := inS t.start && codeValid t.goal && decide (t.deeds.length ≤ 6) && t.deeds.all deedValid

theorem all_drop {ds : List DeedM} {k : Nat} {d : DeedM} {l : List DeedM} (h : ds.drop k = d :: l) : (ds.drop k).all deedValid = (deedValid d && l.all deedValid) := by rw [h]; rfl

set_option maxHeartbeats 1000000 in
theorem impl_TaskValid (t : TaskM) (v : Value) (w : World) (ht : IsTask w v t) :
    Calls Try.prog 43 #[v] w fun e w' => e = .returned (.bool (taskValid t)) ∧ Below w.heap.size w w' := by
  obtain ⟨start, goal, deeds⟩ := t
  obtain ⟨go, gl, gc, ao, l, cp, rfl, h2, h3, h4⟩ := ht
  simp only at *
  obtain ⟨ao', cap, e, hcap, hmax, hcells⟩ := id h4
  injection e with e1 e2 e3
  subst e1; subst e2; subst e3
  unfold maxLen at hmax
  obtain ⟨Wb, hWb⟩ : ∃ Wb, Wb = w.alloc (.cells #[.int .i64 start, .slice go gl gc, .slice ao deeds.length cp] 35) := ⟨_, rfl⟩
  have bb : Below w.heap.size w Wb := by rw [hWb]; exact (Below.refl w.heap.size w).alloc (Nat.le_refl _) _
  have c0 : Wb.cell? ⟨w.heap.size, 0, none⟩ = some (.int .i64 start) := by rw [hWb, cell_new]; rfl
  have c1 : Wb.cell? ⟨w.heap.size, 1, none⟩ = some (.slice go gl gc) := by rw [hWb, cell_new]; rfl
  have c2 : Wb.cell? ⟨w.heap.size, 2, none⟩ = some (.slice ao deeds.length cp) := by rw [hWb, cell_new]; rfl
  have hsz : Wb.heap.size = w.heap.size + 1 := by rw [hWb]; simp
  have HG := hidI (h3.below bb)
  have HD := hidI (h4.below bb)
  have HB := hidI bb; have HW := hidI hWb; have HZ := hidI hsz
  have hlt : w.heap.size < Wb.heap.size := by omega
  clear bb hsz h3 h4
  cases ha : inS start
  · have HF := hidI (show taskValid ⟨start, goal, deeds⟩ = false by unfold taskValid; rw [ha]; rfl)
    go_enter Try.func43, Try.ntmps43
    go_wp2_with fail
    rw [← hWb]; clear hWb
    refine (impl_stateOkS start _).mono ?_; rintro e w' ⟨rfl, rfl⟩
    go_wp2_with fail
    go_ret
    exact ⟨ret_bool HF.out.symm, HB.out⟩
  cases hc : codeValid goal
  · have HF := hidI (show taskValid ⟨start, goal, deeds⟩ = false by unfold taskValid; rw [hc, Bool.and_false]; rfl)
    go_enter Try.func43, Try.ntmps43
    go_wp2_with fail
    rw [← hWb]; clear hWb
    refine (impl_stateOkS start _).mono ?_; rintro e w' ⟨rfl, rfl⟩
    go_wp2_with fail
    refine (impl_CodeValid goal _ _ HG.out).mono ?_; rintro e w' ⟨rfl, rfl⟩
    go_wp2_with fail
    go_ret
    exact ⟨ret_bool HF.out.symm, HB.out⟩
  by_cases hl : deeds.length ≤ 6
  · have HF := hidI (show taskValid ⟨start, goal, deeds⟩ = (deeds.drop 0).all deedValid by unfold taskValid; rw [ha, hc, decide_eq_true hl]; rfl)
    go_enter Try.func43, Try.ntmps43
    go_wp2_with fail
    rw [← hWb]; clear hWb
    refine (impl_stateOkS start _).mono ?_; rintro e w' ⟨rfl, rfl⟩
    go_wp2_with fail
    refine (impl_CodeValid goal _ _ HG.out).mono ?_; rintro e w' ⟨rfl, rfl⟩
    rcases hcells with ⟨hnil, _⟩ | ⟨b, off, hao, hb, hcc⟩
    · subst hnil
      go_wp2_with fail
      refine wp_loop_rounds 1 ?_
      rw [rounds_succ]
      go_wp2_with fail
      go_ret
      exact ⟨ret_bool HF.out.symm, HB.out⟩
    · subst hao
      go_wp2_with fail
      go_loopw [24] (fun i wr => ∃ k : Nat, k ≤ deeds.length ∧ i = .int .i64 k ∧ Hid (taskValid ⟨start, goal, deeds⟩ = (deeds.drop k).all deedValid) ∧ Hid (Below Wb.heap.size Wb wr)) (fun i _ => deeds.length - (intOf i).toNat)
      case atStart => exact ⟨0, by omega, rfl, HF, hidI (Below.refl _ _)⟩
      case round =>
        obtain ⟨k, hk, rfl, HR, HBr⟩ := hrel
        clear HF
        by_cases hlt : k < deeds.length
        · obtain ⟨d, hd, hdr⟩ : ∃ d, deeds[k]? = some d ∧ deeds.drop k = d :: deeds.drop (k + 1) := ⟨deeds[k], List.getElem?_eq_getElem hlt, List.drop_eq_getElem_cons hlt⟩
          obtain ⟨so, l, cp', q0, q1, q2, q3, hde⟩ := hcc k d hd
          have HBw := hidI (HB.out.trans (HBr.out.mono (by omega)))
          have r0 := (HBw.out.cell (p := ⟨b, off + k * 4, none⟩) hb).trans q0
          have r1 := (HBw.out.cell (p := ⟨b, off + k * 4 + 1, none⟩) hb).trans q1
          have r2 := (HBw.out.cell (p := ⟨b, off + k * 4 + 2, none⟩) hb).trans q2
          have r3 := (HBw.out.cell (p := ⟨b, off + k * 4 + 3, none⟩) hb).trans q3
          have HDE := hidI (hde.below HBw.out)
          have Hcc := hidI hcc; have Hdr := hidI hdr; have Hd := hidI hd
          clear hcc q0 q1 q2 q3 hde hdr hd
          go_wp2_with fail
          have ba := (Below.refl wr.heap.size wr).alloc (Nat.le_refl _) (.cells #[.slice so l cp', .int .i64 d.on, .int .i64 d.off, .int .i64 d.flip] 46)
          refine (impl_DeedValid d _ _ (HDE.out.below ba)).mono ?_; rintro e w5 ⟨rfl, b5⟩
          have HB5 := hidI (bthen HBr.out (bthen ba b5)); clear ba b5
          cases hv : deedValid d
          · have HV := hidI hv
            go_wp2_with fail
            go_ret
            exact ⟨ret_bool (by rw [HR.out, Hdr.out, List.all_cons, HV.out]; rfl), HB.out.trans (HB5.out.mono (by omega))⟩
          · have HV := hidI hv
            go_wp2_with fail
            go_roundw
            case rel => exact ⟨k + 1, by omega, by go_num, hidI (by rw [HR.out, Hdr.out, List.all_cons, HV.out, Bool.true_and]), HB5⟩
            case measure => simp [intOf]; omega
        · go_wp2_with fail
          go_ret
          exact ⟨ret_bool (by rw [HR.out, List.drop_of_length_le (by omega)]; rfl), HB.out.trans (HBr.out.mono (by omega))⟩
  · have HF := hidI (show taskValid ⟨start, goal, deeds⟩ = false by unfold taskValid; rw [decide_eq_false hl, Bool.and_false]; rfl)
    go_enter Try.func43, Try.ntmps43
    go_wp2_with fail
    rw [← hWb]; clear hWb
    refine (impl_stateOkS start _).mono ?_; rintro e w' ⟨rfl, rfl⟩
    go_wp2_with fail
    refine (impl_CodeValid goal _ _ HG.out).mono ?_; rintro e w' ⟨rfl, rfl⟩
    go_wp2_with fail
    go_ret
    exact ⟨ret_bool HF.out.symm, HB.out⟩

set_option maxHeartbeats 1000000 in
theorem spec_TaskValid (t : TaskM) (v : Value) (w : World) (ht : IsTask w v t) (hgl : t.goal.length ≤ 4000000) (hdl : ∀ d ∈ t.deeds, d.need.length ≤ 4000000) :
    Calls Try.prog 22 #[v] w fun e w' => e = .returned (.bool (taskValid t)) ∧ Below w.heap.size w w' := by
  obtain ⟨start, goal, deeds⟩ := t
  obtain ⟨go, gl, gc, ao, l, cp, rfl, h2, h3, h4⟩ := ht
  simp only at *
  obtain ⟨ao', cap, e, hcap, hmax, hcells⟩ := id h4
  injection e with e1 e2 e3
  subst e1; subst e2; subst e3
  unfold maxLen at hmax
  obtain ⟨Wb, hWb⟩ : ∃ Wb, Wb = w.alloc (.cells #[.int .i64 start, .slice go gl gc, .slice ao deeds.length cp] 35) := ⟨_, rfl⟩
  have bb : Below w.heap.size w Wb := by rw [hWb]; exact (Below.refl w.heap.size w).alloc (Nat.le_refl _) _
  have c0 : Wb.cell? ⟨w.heap.size, 0, none⟩ = some (.int .i64 start) := by rw [hWb, cell_new]; rfl
  have c1 : Wb.cell? ⟨w.heap.size, 1, none⟩ = some (.slice go gl gc) := by rw [hWb, cell_new]; rfl
  have c2 : Wb.cell? ⟨w.heap.size, 2, none⟩ = some (.slice ao deeds.length cp) := by rw [hWb, cell_new]; rfl
  have hsz : Wb.heap.size = w.heap.size + 1 := by rw [hWb]; simp
  have HG := hidI (h3.below bb)
  have HD := hidI (h4.below bb)
  have HB := hidI bb; have HW := hidI hWb; have HZ := hidI hsz
  have hlt : w.heap.size < Wb.heap.size := by omega
  have HDL := hidI hdl
  clear bb hsz h3 h4 hdl
  have HEND : ∀ wr, Below Wb.heap.size Wb wr → deeds.all deedValid = true → ∀ (Q : Exit → Act → World → Prop), True := fun _ _ _ _ => trivial
  clear HEND
  have HT := hidI (show taskValid ⟨start, goal, deeds⟩ = (inS start && codeValid goal && decide (deeds.length ≤ 6) && (deeds.drop 0).all deedValid) from rfl)
  go_enter Try.func22, Try.ntmps22
  go_wp2_with fail
  rw [← hWb]; clear hWb
  go_loopw [3] (fun i wr => ∃ k : Nat, k ≤ deeds.length ∧ i = .int .i64 k ∧ Hid ((deeds.drop 0).all deedValid = (deeds.drop k).all deedValid) ∧ Hid (Below Wb.heap.size Wb wr)) (fun i _ => deeds.length - (intOf i).toNat)
  case atStart => exact ⟨0, by omega, rfl, hidI rfl, hidI (Below.refl _ _)⟩
  case round =>
    obtain ⟨k, hk, rfl, HR, HBr⟩ := hrel
    have d0 : wr.cell? ⟨w.heap.size, 0, none⟩ = some (.int .i64 start) := (HBr.out.cell hlt).trans c0
    have d1 : wr.cell? ⟨w.heap.size, 1, none⟩ = some (.slice go gl gc) := (HBr.out.cell hlt).trans c1
    have d2 : wr.cell? ⟨w.heap.size, 2, none⟩ = some (.slice ao deeds.length cp) := (HBr.out.cell hlt).trans c2
    have C0 := hidI c0; have C1 := hidI c1; have C2 := hidI c2; clear c0 c1 c2
    by_cases hlt2 : k < deeds.length
    · rcases hcells with ⟨hnil, _⟩ | ⟨b, off, hao, hb, hcc⟩
      · rw [hnil] at hlt2; simp at hlt2
      · subst hao
        obtain ⟨d, hd, hdr⟩ : ∃ d, deeds[k]? = some d ∧ deeds.drop k = d :: deeds.drop (k + 1) := ⟨deeds[k], List.getElem?_eq_getElem hlt2, List.drop_eq_getElem_cons hlt2⟩
        obtain ⟨so, l, cp', q0, q1, q2, q3, hde⟩ := hcc k d hd
        have HBw := hidI (HB.out.trans (HBr.out.mono (by omega)))
        have r0 := (HBw.out.cell (p := ⟨b, off + k * 4, none⟩) hb).trans q0
        have r1 := (HBw.out.cell (p := ⟨b, off + k * 4 + 1, none⟩) hb).trans q1
        have r2 := (HBw.out.cell (p := ⟨b, off + k * 4 + 2, none⟩) hb).trans q2
        have r3 := (HBw.out.cell (p := ⟨b, off + k * 4 + 3, none⟩) hb).trans q3
        have HDE := hidI (hde.below HBw.out)
        have hnl : d.need.length ≤ 4000000 := HDL.out d (List.mem_of_getElem? hd)
        have Hcc := hidI hcc; have Hdr := hidI hdr
        clear hcc q0 q1 q2 q3 hde hdr hd
        go_wp2_with fail
        refine (spec_DeedValid d _ _ HDE.out hnl).mono ?_; rintro e w5 ⟨rfl, b5⟩
        have HB5 := hidI (bthen HBr.out b5); clear b5
        cases hv : deedValid d
        · have HV := hidI hv
          go_wp2_with fail
          go_ret
          exact ⟨ret_bool (by rw [HT.out, HR.out, Hdr.out, List.all_cons, HV.out]; simp), HB.out.trans (HB5.out.mono (by omega))⟩
        · have HV := hidI hv
          go_wp2_with fail
          go_roundw
          case rel => exact ⟨k + 1, by omega, by go_num, hidI (by rw [HR.out, Hdr.out, List.all_cons, HV.out, Bool.true_and]), HB5⟩
          case measure => simp [intOf]; omega
    · have HA := hidI (show (deeds.drop 0).all deedValid = true by rw [HR.out, List.drop_of_length_le (by omega)]; rfl)
      have Hcells := hidI hcells; clear hcells
      cases ha : inS start
      · go_wp2_with fail
        refine (spec_l1InS start _).mono ?_; rintro e w' ⟨rfl, rfl⟩
        go_wp2_with fail
        go_ret
        exact ⟨ret_bool (by rw [HT.out]; simp [*]), HB.out.trans (HBr.out.mono (by omega))⟩
      · cases hc : codeValid goal
        · go_wp2_with fail
          refine (spec_l1InS start _).mono ?_; rintro e w' ⟨rfl, rfl⟩
          go_wp2_with fail
          refine (spec_CodeValid goal _ _ (HG.out.below HBr.out) hgl).mono ?_; rintro e w' ⟨rfl, rfl⟩
          go_wp2_with fail
          go_ret
          exact ⟨ret_bool (by rw [HT.out]; simp [*]), HB.out.trans (HBr.out.mono (by omega))⟩
        · go_wp2_with fail
          refine (spec_l1InS start _).mono ?_; rintro e w' ⟨rfl, rfl⟩
          go_wp2_with fail
          refine (spec_CodeValid goal _ _ (HG.out.below HBr.out) hgl).mono ?_; rintro e w' ⟨rfl, rfl⟩
          go_wp2_with fail
          go_ret
          exact ⟨ret_bool (by rw [HT.out, HA.out]; simp only [Bool.and_true, *]; first | rfl | (rw [decide_eq_decide]; omega) | (simp; omega)), HB.out.trans (HBr.out.mono (by omega))⟩
end Go.Proofs.Ytndbfdgflflfpaa
