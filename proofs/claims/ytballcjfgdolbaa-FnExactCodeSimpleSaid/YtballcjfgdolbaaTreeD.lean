/- CodeSimple, of the program and of the reference. -/
import Derived.Test.YtballcjfgdolbaaTreeQ
import Derived.Test.YtballcjfgdolbaaTreeR
import Derived.Test.YtballcjfgdolbaaCdV
namespace Go.Proofs.Ytballcjfgdolbaa
open Go.RowKit

def codeSimple (zs : List Int) : List Int := if codeValid zs = true then (smp (condOf zs)).steps else []

theorem codeSimple_no {zs : List Int} (h : codeValid zs = false) : codeSimple zs = [] := by unfold codeSimple; rw [h]; simp
theorem codeSimple_tree {t : Cond} (h : codeValid t.steps = true) (hk : t.Ok) : codeSimple t.steps = (smp t).steps := by
  unfold codeSimple; rw [if_pos h, condOf_steps t hk]

theorem codeSimple_small (zs : List Int) : (codeSimple zs).length ≤ 40 := by
  cases hv : codeValid zs with
  | false => rw [codeSimple_no hv]; simp
  | true =>
    obtain ⟨t, hk, rfl, h40, h1, -, -⟩ := valid_tree hv
    rw [codeSimple_tree hv hk]
    have := smp_len t
    omega

theorem codeSimple_I64 (zs : List Int) : ∀ z ∈ codeSimple zs, I64 z := by
  cases hv : codeValid zs with
  | false => rw [codeSimple_no hv]; intro z hz; simp at hz
  | true =>
    obtain ⟨t, hk, rfl, h40, h1, -, -⟩ := valid_tree hv
    rw [codeSimple_tree hv hk]
    exact steps_I64 (smp_Ok t hk)

set_option maxRecDepth 100000 in
set_option maxHeartbeats 1000000 in
theorem impl_CodeSimple (zs : List Int) (v : Value) (w : World) (h : IntS w v zs) :
    Calls Try.prog 24 #[v] w fun e w' => GivesL w w' (codeSimple zs) e := by
  obtain ⟨ca, aa, e1⟩ : ∃ ca aa, v = .slice aa zs.length ca := by obtain ⟨_, a, c, h1, h2, _⟩ := h; exact ⟨c, a, h1⟩
  subst e1
  cases hv : codeValid zs
  · have HF := hidI (codeSimple_no hv)
    have HA := hidI hv; clear hv
    go_enter Try.func24, Try.ntmps24
    go_wp2_with fail
    refine (impl_CodeValid zs _ _ h).mono ?_; rintro e w' ⟨rfl, rfl⟩; rw [HA.out]
    go_wp2_with fail
    go_ret
    rw [HF.out]; exact ⟨_, rfl, World.ownsRow_nil _ _ _ _, Below.refl _ _⟩
  · obtain ⟨t, hk, rfl, h40, h1, -, -⟩ := valid_tree hv
    have HA := hidI hv
    have HF := hidI (codeSimple_tree hv hk)
    have HFit := hidI (fits_cond t hk)
    have HCO := hidI (condOf_steps t hk)
    have hok := smp_Ok t hk
    have hlen := smp_len t
    have HP := hidI (fun w => impl_simpler t w hk (by omega))
    clear hv
    generalize hq : smp t = q at *
    have HQ := hidI hok
    have HM := fun n w => method_steps Try.underlying51 n q w
    have HC := fun a w => call_steps q a w
    have HS := hidI (steps_any q)
    rw [q.val_is] at HP
    generalize q.ty = T at HM HP
    generalize q.arg = A at HM HS HP
    generalize q.fn = F at HM HC HS
    clear hok hk hq
    obtain ⟨T0, A0, hA0⟩ := t.shape
    rw [hA0] at HP
    have HTV := hidI hA0
    clear hA0
    have hl1 : q.steps.length ≤ 100000 := by omega
    have HL1 := hidI hl1
    clear hlen h1 hl1
    go_enter Try.func24, Try.ntmps24
    go_wp2_with fail
    refine (impl_CodeValid t.steps _ _ h).mono ?_; rintro e w' ⟨rfl, rfl⟩; rw [HA.out]
    go_wp2_with fail
    refine (impl_conditionOf t.steps _ _ h HFit.out h40).mono ?_; rintro e w1 ⟨rfl, b1⟩
    rw [HCO.out, HTV.out]
    go_wp2_with fail
    refine (HP.out _).mono ?_; rintro e w2 ⟨rfl, b2⟩
    go_wp2_with fail
    refine (HS.out _ HL1.out HQ.out).mono ?_; rintro e w3 ⟨v3, rfl, o3, b3⟩
    obtain ⟨g3, c3, rfl, -⟩ := own_addr o3 (steps_ne q)
    have O3 := hidI (own_base o3 (base' := w.heap.size) (Nat.le_trans b1.size b2.size))
    have B3 := hidI (bthen b1 (bthen b2 b3))
    clear o3 b1 b2 b3 HM HC
    go_wp2_with fail
    go_ret
    rw [HF.out]
    exact ⟨_, rfl, O3.out, B3.out⟩

set_option maxHeartbeats 1000000 in
theorem spec_CodeSimple (zs : List Int) (v : Value) (w : World) (h : IntS w v zs) (hl : zs.length ≤ 4000000) :
    Calls Try.prog 23 #[v] w fun e w' => GivesL w w' (codeSimple zs) e := by
  obtain ⟨ca, aa, e1⟩ : ∃ ca aa, v = .slice aa zs.length ca := by obtain ⟨_, a, c, h1, h2, _⟩ := h; exact ⟨c, a, h1⟩
  subst e1
  cases hv : codeValid zs
  · have HF := hidI (codeSimple_no hv)
    have HA := hidI hv; clear hv
    go_enter Try.func23, Try.ntmps23
    go_wp2_with fail
    refine (spec_CodeValid zs _ _ h hl).mono ?_; rintro e w' ⟨rfl, rfl⟩; rw [HA.out]
    go_wp2_with fail
    go_ret
    rw [HF.out]; exact ⟨_, rfl, own_made rfl (Nat.le_refl _) _, (Below.refl _ _).alloc (Nat.le_refl _) _⟩
  · obtain ⟨t, hk, rfl, h40, h1, -, -⟩ := valid_tree hv
    have HA := hidI hv
    have HF := hidI (codeSimple_tree hv hk)
    have HP := hidI (fun v w (hv : IntS w v t.steps) => spec_l5Simple t v w hv hk (by omega))
    have HL := hidI hl
    generalize smp t = q at *
    clear hv h1 hl hk
    go_enter Try.func23, Try.ntmps23
    go_wp2_with fail
    refine (spec_CodeValid t.steps _ _ h HL.out).mono ?_; rintro e w' ⟨rfl, rfl⟩; rw [HA.out]
    go_wp2_with fail
    refine (HP.out _ _ h).mono ?_; rintro e w1 ⟨v1, rfl, o1, b1⟩
    obtain ⟨g1, c1, rfl, -⟩ := own_addr o1 (steps_ne q)
    have O1 := hidI o1; have B1 := hidI b1
    clear o1 b1
    go_wp2_with fail
    go_ret
    rw [HF.out]
    exact ⟨_, rfl, O1.out, B1.out⟩
end Go.Proofs.Ytballcjfgdolbaa
