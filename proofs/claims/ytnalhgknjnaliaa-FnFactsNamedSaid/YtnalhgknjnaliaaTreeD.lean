/- impl.CodeSimple. -/
import Derived.Test.YtnalhgknjnaliaaTreeQ
import Derived.Test.YtnalhgknjnaliaaSimpS
namespace Go.Proofs.Ytnalhgknjnaliaa
open Go.RowKit

set_option maxRecDepth 100000 in
set_option maxHeartbeats 1000000 in
theorem impl_CodeSimple (zs : List Int) (v : Value) (w : World) (h : IntS w v zs) :
    Calls Try.prog 25 #[v] w fun e w' => GivesL w w' (codeSimple zs) e := by
  obtain ⟨ca, aa, e1⟩ : ∃ ca aa, v = .slice aa zs.length ca := by obtain ⟨_, a, c, h1, h2, _⟩ := h; exact ⟨c, a, h1⟩
  subst e1
  cases hv : codeValid zs
  · have HF := hidI (codeSimple_no hv)
    have HA := hidI hv; clear hv
    go_enter Try.func25, Try.ntmps25
    go_wp2_with fail
    refine (impl_CodeValid zs _ _ h).mono ?_; rintro e w' ⟨rfl, rfl⟩; rw [HA.out]
    go_wp2_with fail
    go_ret
    rw [HF.out]; exact ⟨_, rfl, World.ownsRow_nil _ _ _ _, Below.refl _ _⟩
  · obtain ⟨t, hk, rfl, h40, h1, -, -⟩ := valid_tree hv
    have HA := hidI hv
    have HF := hidI (codeSimple_tree hv hk)
    have HFit := hidI (fits_cond t hk)
    have HCO := hidI (condOf_steps t hk)
    have hok := smp_Ok t hk
    have hlen := smp_len t
    have HP := hidI (fun w => impl_simpler t w hk (by omega))
    clear hv
    generalize hq : smp t = q at *
    have HQ := hidI hok
    have HM := fun n w => method_steps Try.underlying56 n q w
    have HC := fun a w => call_steps q a w
    have HS := hidI (steps_any q)
    rw [q.val_is] at HP
    generalize q.ty = T at HM HP
    generalize q.arg = A at HM HS HP
    generalize q.fn = F at HM HC HS
    clear hok hk hq
    obtain ⟨T0, A0, hA0⟩ := t.shape
    rw [hA0] at HP
    have HTV := hidI hA0
    clear hA0
    have hl1 : q.steps.length ≤ 100000 := by omega
    have HL1 := hidI hl1
    clear hlen h1 hl1
    go_enter Try.func25, Try.ntmps25
    go_wp2_with fail
    refine (impl_CodeValid t.steps _ _ h).mono ?_; rintro e w' ⟨rfl, rfl⟩; rw [HA.out]
    go_wp2_with fail
    refine (impl_conditionOf t.steps _ _ h HFit.out h40).mono ?_; rintro e w1 ⟨rfl, b1⟩
    rw [HCO.out, HTV.out]
    go_wp2_with fail
    refine (HP.out _).mono ?_; rintro e w2 ⟨rfl, b2⟩
    go_wp2_with fail
    refine (HS.out _ HL1.out HQ.out).mono ?_; rintro e w3 ⟨v3, rfl, o3, b3⟩
    obtain ⟨g3, c3, rfl, -⟩ := own_addr o3 (steps_ne q)
    have O3 := hidI (own_base o3 (base' := w.heap.size) (Nat.le_trans b1.size b2.size))
    have B3 := hidI (bthen b1 (bthen b2 b3))
    clear o3 b1 b2 b3 HM HC
    go_wp2_with fail
    go_ret
    rw [HF.out]
    exact ⟨_, rfl, O3.out, B3.out⟩

end Go.Proofs.Ytnalhgknjnaliaa
