/- PlanOk, of the program and of the reference. -/
import Derived.Test.YtballcjfgdolbaaPlan
import Derived.Test.YtballcjfgdolbaaTruth
import Derived.Outline
namespace Go.Proofs.Ytballcjfgdolbaa
open Go.RowKit

theorem planGo_lt {ds : List DeedM} (hv : ∀ d ∈ ds, deedValid d = true) : ∀ (l : List Int) (S : Nat), S < 32 → planGo ds l S = -1 ∨ ∃ T : Nat, T < 32 ∧ planGo ds l S = T
  | [], S, hS => .inr ⟨S, hS, rfl⟩
  | k :: l, S, hS => by
    rw [planGo]
    by_cases hn : planStep ds k S < 0
    · rw [if_pos hn]; exact .inl rfl
    · rw [if_neg hn]
      have h : ∃ T : Nat, T < 32 ∧ planStep ds k S = T := by
        unfold planStep at hn ⊢
        by_cases hk : k < 0
        · rw [if_pos hk] at hn; omega
        · rw [if_neg hk] at hn ⊢
          cases hd : ds[k.toNat]? with
          | none => rw [hd] at hn; simp at hn
          | some d =>
            rw [hd] at hn
            rcases behind_lt d (hv d (List.mem_of_getElem? hd)) S hS with h | h
            · simp only [h] at hn; omega
            · exact h
      obtain ⟨T, hT, e⟩ := h
      rw [e, Int.toNat_natCast]
      exact planGo_lt hv l T hT

theorem planRun_lt (t : TaskM) (n : Int) (plan : List Int) : planRun t n plan = -1 ∨ ∃ T : Nat, T < 32 ∧ planRun t n plan = T ∧ taskValid t = true := by
  unfold planRun
  split
  · rename_i h
    simp only [Bool.and_eq_true] at h
    obtain ⟨S, rfl, hS⟩ := inS_true h.1.2
    rcases planGo_lt (taskValid_parts h.1.1).2.2.2 plan S hS with h' | ⟨T, hT, e⟩
    · exact .inl h'
    · exact .inr ⟨T, hT, e, h.1.1⟩
  · exact .inl rfl

def planOk (t : TaskM) (plan : List Int) : Bool := decide (0 ≤ planRun t t.start plan) && codeRun t.goal (planRun t t.start plan)

set_option maxHeartbeats 2000000 in
theorem impl_PlanOk (t : TaskM) (plan : List Int) (v u : Value) (w : World) (ht : IsTask w v t) (hp : IntS w u plan) :
    Calls Try.prog 28 #[v, u] w fun e w' => e = .returned (.bool (planOk t plan)) ∧ Below w.heap.size w w' := by
  obtain ⟨go, gl, gc, ao, l, cp, hv, hs, h3, h4⟩ := id ht
  subst hv
  obtain ⟨Wb, hWb⟩ : ∃ Wb, Wb = w.alloc (.cells #[.int .i64 t.start, .slice go gl gc, .slice ao l cp] 39) := ⟨_, rfl⟩
  have bb : Below w.heap.size w Wb := by rw [hWb]; exact (Below.refl w.heap.size w).alloc (Nat.le_refl _) _
  have hsz : Wb.heap.size = w.heap.size + 1 := by rw [hWb]; simp
  have CC : ∀ W, Below Wb.heap.size Wb W → W.cell? ⟨w.heap.size, 0, none⟩ = some (.int .i64 t.start) ∧ W.cell? ⟨w.heap.size, 1, none⟩ = some (.slice go gl gc) ∧ W.cell? ⟨w.heap.size, 2, none⟩ = some (.slice ao l cp) := fun W hW =>
    ⟨(hW.cell (by simp; omega)).trans (by rw [hWb, cell_new]; rfl), (hW.cell (by simp; omega)).trans (by rw [hWb, cell_new]; rfl), (hW.cell (by simp; omega)).trans (by rw [hWb, cell_new]; rfl)⟩
  have HT0 := hidI (ht.below bb); have HP := hidI (hp.below bb); have HG := hidI (h3.below bb)
  have HB := hidI bb; have HCC := hidI CC
  have hlt : w.heap.size < Wb.heap.size := by omega
  obtain ⟨c0, c1, c2⟩ := CC Wb (Below.refl _ _)
  clear bb hsz h3 h4 CC ht hp
  rcases planRun_lt t t.start plan with hr | ⟨T, hT, hr, hv⟩
  · have HF := hidI (show planOk t plan = false by unfold planOk; rw [hr]; rfl)
    have HR := hidI hr; clear hr
    go_enter Try.func28, Try.ntmps28
    go_wp2_with fail
    rw [← hWb]; clear hWb
    refine (impl_PlanRun t t.start plan _ _ _ HT0.out HP.out).mono ?_; rintro e w1 ⟨rfl, b1⟩; rw [HR.out]
    go_wp2_with fail
    go_ret
    exact ⟨ret_bool HF.out.symm, HB.out.trans (b1.mono (by omega))⟩
  · have HF := hidI (show planOk t plan = codeRun t.goal T by unfold planOk; rw [hr, decide_eq_true (by omega), Bool.true_and])
    have HR := hidI hr; clear hr hv
    go_enter Try.func28, Try.ntmps28
    go_wp2_with fail
    rw [← hWb]; clear hWb
    refine (impl_PlanRun t t.start plan _ _ _ HT0.out HP.out).mono ?_; rintro e w1 ⟨rfl, b1⟩; rw [HR.out]
    have B1 := hidI b1; clear b1 c0 c1 c2
    obtain ⟨c0, c1, c2⟩ := HCC.out _ B1.out
    go_wp2_with fail
    refine (impl_CodeRun t.goal T _ _ (HG.out.below B1.out)).mono ?_; rintro e w2 ⟨rfl, b2⟩
    go_wp2_with fail
    go_ret
    exact ⟨ret_bool HF.out.symm, HB.out.trans ((bthen B1.out b2).mono (by omega))⟩

set_option maxHeartbeats 2000000 in
theorem spec_PlanOk (t : TaskM) (plan : List Int) (v u : Value) (w : World) (ht : IsTask w v t) (hp : IntS w u plan) (hgl : t.goal.length ≤ 4000000) (hdl : ∀ d ∈ t.deeds, d.need.length ≤ 4000000) :
    Calls Try.prog 26 #[v, u] w fun e w' => e = .returned (.bool (planOk t plan)) ∧ Below w.heap.size w w' := by
  obtain ⟨go, gl, gc, ao, l, cp, hv, hs, h3, h4⟩ := id ht
  subst hv
  obtain ⟨Wb, hWb⟩ : ∃ Wb, Wb = w.alloc (.cells #[.int .i64 t.start, .slice go gl gc, .slice ao l cp] 39) := ⟨_, rfl⟩
  have bb : Below w.heap.size w Wb := by rw [hWb]; exact (Below.refl w.heap.size w).alloc (Nat.le_refl _) _
  have hsz : Wb.heap.size = w.heap.size + 1 := by rw [hWb]; simp
  have CC : ∀ W, Below Wb.heap.size Wb W → W.cell? ⟨w.heap.size, 0, none⟩ = some (.int .i64 t.start) ∧ W.cell? ⟨w.heap.size, 1, none⟩ = some (.slice go gl gc) ∧ W.cell? ⟨w.heap.size, 2, none⟩ = some (.slice ao l cp) := fun W hW =>
    ⟨(hW.cell (by simp; omega)).trans (by rw [hWb, cell_new]; rfl), (hW.cell (by simp; omega)).trans (by rw [hWb, cell_new]; rfl), (hW.cell (by simp; omega)).trans (by rw [hWb, cell_new]; rfl)⟩
  have HT0 := hidI (ht.below bb); have HP := hidI (hp.below bb); have HG := hidI (h3.below bb)
  have HB := hidI bb; have HCC := hidI CC
  have hlt : w.heap.size < Wb.heap.size := by omega
  obtain ⟨c0, c1, c2⟩ := CC Wb (Below.refl _ _)
  clear bb hsz h3 h4 CC ht hp
  rcases planRun_lt t t.start plan with hr | ⟨T, hT, hr, hv⟩
  · have HF := hidI (show planOk t plan = false by unfold planOk; rw [hr]; rfl)
    have HR := hidI hr; clear hr
    go_enter Try.func26, Try.ntmps26
    go_wp2_with fail
    rw [← hWb]; clear hWb
    refine (spec_PlanRun t t.start plan _ _ _ HT0.out HP.out hgl hdl).mono ?_; rintro e w1 ⟨rfl, b1⟩; rw [HR.out]
    go_wp2_with fail
    go_ret
    exact ⟨ret_bool HF.out.symm, HB.out.trans (b1.mono (by omega))⟩
  · have HF := hidI (show planOk t plan = runAll t.goal T by unfold planOk; rw [hr, decide_eq_true (by omega), Bool.true_and, codeRun, (taskValid_parts hv).2.1, decide_eq_true (by omega)]; rfl)
    have HFit := hidI (fits_of_valid (taskValid_parts hv).2.1)
    have HR := hidI hr; clear hr hv
    go_enter Try.func26, Try.ntmps26
    go_wp2_with fail
    rw [← hWb]; clear hWb
    refine (spec_PlanRun t t.start plan _ _ _ HT0.out HP.out hgl hdl).mono ?_; rintro e w1 ⟨rfl, b1⟩; rw [HR.out]
    have B1 := hidI b1; clear b1 c0 c1 c2
    obtain ⟨c0, c1, c2⟩ := HCC.out _ B1.out
    go_wp2_with fail
    refine (spec_l5Run t.goal T _ _ (HG.out.below B1.out) HFit.out.1 HFit.out.2.2 hT).mono ?_; rintro e w2 ⟨rfl, b2⟩
    go_wp2_with fail
    go_ret
    exact ⟨ret_bool HF.out.symm, HB.out.trans ((bthen B1.out b2).mono (by omega))⟩

end Go.Proofs.Ytballcjfgdolbaa
