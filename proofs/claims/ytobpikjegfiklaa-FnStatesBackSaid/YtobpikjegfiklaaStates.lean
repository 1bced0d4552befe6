/- StatesNext and StatesBack of the program. -/
import Derived.Test.YtobpikjegfiklaaTabN
import Derived.Test.YtobpikjegfiklaaTabB
import Derived.Outline
namespace Go.Proofs.Ytobpikjegfiklaa
open Go.RowKit

def inW (n : Int) : Bool := decide (0 ≤ n ∧ n < 4294967296)
theorem inW_true {n : Int} (h : inW n = true) : ∃ a : Nat, n = a ∧ a < 4294967296 := by
  have := of_decide_eq_true h
  exact ⟨n.toNat, by omega, by omega⟩
theorem inW_nat {a : Nat} (h : a < 4294967296) : inW a = true := decide_eq_true (by omega)

theorem impl_statesOk (n : Int) (w : World) :
    Calls Try.prog 74 #[.int .i64 n] w fun e w' => e = .returned (.bool (inW n)) ∧ w = w' := by
  go_enter Try.func74, Try.ntmps74
  go_wp2
  all_goals go_ret
  all_goals exact ⟨ret_bool (by unfold inW; first | (simp; omega) | (simp [*]) | (rw [eq_comm, decide_eq_decide]; omega)), rfl⟩

theorem tab_range2 {ds : List DeedM} (hv : ∀ d ∈ ds, deedValid d = true) (p : Nat) : tabAt ds p = -1 ∨ ∃ T : Nat, T < 32 ∧ tabAt ds p = T := by
  unfold tabAt
  cases hd : ds[p / 32]? with
  | none => exact .inl rfl
  | some d => exact behind_lt d (hv d (List.mem_of_getElem? hd)) (p % 32) (Nat.mod_lt _ (by decide))

def statesNext (t : TaskM) (n : Int) : Int := if taskValid t && inW n then (nextTo t.deeds n.toNat t.deeds.length : Nat) else -1
def statesBack (t : TaskM) (n : Int) : Int := if taskValid t && inW n then (backTo t.deeds n.toNat t.deeds.length : Nat) else -1


set_option maxHeartbeats 2000000 in
theorem impl_StatesBack (t : TaskM) (n : Int) (v : Value) (w : World) (ht : IsTask w v t) :
    Calls Try.prog 51 #[v, .int .i64 n] w fun e w' => e = .returned (.int .i64 (statesBack t n)) ∧ Below w.heap.size w w' := by
  obtain ⟨go, gl, gc, ao, l, cp, hv, -⟩ := id ht
  subst hv
  obtain ⟨Wb, hWb⟩ : ∃ Wb, Wb = w.alloc (.cells #[.int .i64 t.start, .slice go gl gc, .slice ao l cp] 35) := ⟨_, rfl⟩
  have bb : Below w.heap.size w Wb := by rw [hWb]; exact (Below.refl w.heap.size w).alloc (Nat.le_refl _) _
  have hsz : Wb.heap.size = w.heap.size + 1 := by rw [hWb]; simp
  have CC : ∀ W, Below Wb.heap.size Wb W → W.cell? ⟨w.heap.size, 0, none⟩ = some (.int .i64 t.start) ∧ W.cell? ⟨w.heap.size, 1, none⟩ = some (.slice go gl gc) ∧ W.cell? ⟨w.heap.size, 2, none⟩ = some (.slice ao l cp) := fun W hW =>
    ⟨(hW.cell (by simp; omega)).trans (by rw [hWb, cell_new]; rfl), (hW.cell (by simp; omega)).trans (by rw [hWb, cell_new]; rfl), (hW.cell (by simp; omega)).trans (by rw [hWb, cell_new]; rfl)⟩
  have HT0 := hidI (ht.below bb)
  have HB := hidI bb; have HCC := hidI CC
  have hlt : w.heap.size ≤ Wb.heap.size := by omega
  obtain ⟨c0, c1, c2⟩ := CC Wb (Below.refl _ _)
  clear bb hsz CC ht
  cases hv : taskValid t
  · have HF := hidI (show statesBack t n = -1 by unfold statesBack; rw [hv]; rfl)
    have HV := hidI hv; clear hv
    go_enter Try.func51, Try.ntmps51
    go_wp2_with fail
    rw [← hWb]; clear hWb
    refine (impl_TaskValid t _ _ HT0.out).mono ?_; rintro e w1 ⟨rfl, b1⟩; rw [HV.out]
    go_wp2_with fail
    go_ret
    exact ⟨ret_int HF.out.symm, HB.out.trans (b1.mono hlt)⟩
  cases hin : inW n
  · have HF := hidI (show statesBack t n = -1 by unfold statesBack; rw [hv, hin]; rfl)
    have HV := hidI hv; have HI := hidI hin; clear hv hin
    go_enter Try.func51, Try.ntmps51
    go_wp2_with fail
    rw [← hWb]; clear hWb
    refine (impl_TaskValid t _ _ HT0.out).mono ?_; rintro e w1 ⟨rfl, b1⟩; rw [HV.out]
    go_wp2_with (go_at_call 74; refine (impl_statesOk n _).mono ?_; rintro e w' ⟨rfl, rfl⟩; rw [HI.out])
    go_ret
    exact ⟨ret_int HF.out.symm, HB.out.trans (b1.mono hlt)⟩
  obtain ⟨S, rfl, hS⟩ := inW_true hin
  have HF := hidI (show statesBack t S = (backTo t.deeds S t.deeds.length : Nat) by unfold statesBack; rw [hv, hin]; rfl)
  obtain ⟨-, -, hl6, hdv⟩ := taskValid_parts hv
  have HDV := hidI hdv; have HTR := hidI (tab_range2 hdv)
  have HV := hidI hv; have HI := hidI hin; clear hv hin hdv
  go_enter Try.func51, Try.ntmps51
  go_wp2_with fail
  rw [← hWb]; clear hWb
  refine (impl_TaskValid t _ _ HT0.out).mono ?_; rintro e w1 ⟨rfl, b1⟩; rw [HV.out]
  have B1 := hidI b1; clear b1 c0 c1 c2
  obtain ⟨c0, c1, c2⟩ := HCC.out _ B1.out
  go_wp2_with (go_at_call 74; refine (impl_statesOk S _).mono ?_; rintro e w' ⟨rfl, rfl⟩; rw [HI.out])
  refine (impl_behindAll t _ _ (HT0.out.below B1.out) HDV.out hl6).mono ?_; rintro e w2 ⟨g, rfl, h2, b2⟩
  have H2 := hidI h2; have B2 := hidI (bthen B1.out b2); clear h2 b2
  go_wp2_with fail
  refine (impl_backStates t.deeds S g _ H2.out hl6 hS HTR.out).mono ?_; rintro e w3 ⟨rfl, b3⟩
  go_wp2_with fail
  go_ret
  exact ⟨ret_int HF.out.symm, HB.out.trans ((bthen B2.out b3).mono hlt)⟩

end Go.Proofs.Ytobpikjegfiklaa
