/- CodePush, of the program and of the reference. -/
import Derived.Test.YtballcjfgdolbaaTreeM
import Derived.Test.YtballcjfgdolbaaTreeN
namespace Go.Proofs.Ytballcjfgdolbaa
open Go.RowKit

def codePush (zs : List Int) : Option (List Int) :=
  if codeValid zs = true then (if (psh (condOf zs) false).steps.length ≤ 40 then some (psh (condOf zs) false).steps else none) else none

theorem codePush_no {zs : List Int} (h : codeValid zs = false) : codePush zs = none := by unfold codePush; rw [h]; simp
theorem codePush_tree {t : Cond} (h : codeValid t.steps = true) (hk : t.Ok) : codePush t.steps = if (psh t false).steps.length ≤ 40 then some (psh t false).steps else none := by
  unfold codePush; rw [if_pos h, condOf_steps t hk]

theorem steps_I64 {t : Cond} (h : t.Ok) : ∀ z ∈ t.steps, I64 z := fun z hz => by have := steps_range t h z hz; unfold I64; omega

set_option maxRecDepth 100000 in
set_option maxHeartbeats 1000000 in
theorem impl_CodePush (zs : List Int) (v : Value) (w : World) (h : IntS w v zs) :
    Calls Try.prog 18 #[v] w fun e w' => GivesS w w' (codePush zs) e := by
  obtain ⟨ca, aa, e1⟩ : ∃ ca aa, v = .slice aa zs.length ca := by obtain ⟨_, a, c, h1, h2, _⟩ := h; exact ⟨c, a, h1⟩
  subst e1
  cases hv : codeValid zs
  · have HF := hidI (codePush_no hv)
    have HA := hidI hv; clear hv
    go_enter Try.func18, Try.ntmps18
    go_wp2_with fail
    refine (impl_CodeValid zs _ _ h).mono ?_; rintro e w' ⟨rfl, rfl⟩; rw [HA.out]
    go_wp2_with fail
    go_ret2
    rw [HF.out]; exact GivesS.none _
  · obtain ⟨t, hk, rfl, h40, h1, -, -⟩ := valid_tree hv
    have HA := hidI hv
    have HF := hidI (codePush_tree hv hk)
    have HFit := hidI (fits_cond t hk)
    have HCO := hidI (condOf_steps t hk)
    have hok := psh_Ok t false hk
    have hlen := psh_len t false
    have HP := hidI (impl_pushedIn t false)
    have HK := hidI hk
    clear hv
    generalize hq : psh t false = q at *
    have HQ := hidI hok
    have HM := fun n w => method_steps Try.underlying51 n q w
    have HC := fun a w => call_steps q a w
    have HS := hidI (steps_any q)
    rw [q.val_is] at HP
    generalize q.ty = T at HM HP
    generalize q.arg = A at HM HS HP
    generalize q.fn = F at HM HC HS
    clear hok hk hq
    obtain ⟨T0, A0, hA0⟩ := t.shape
    rw [hA0] at HP
    have HTV := hidI hA0
    clear hA0
    have hcmp : q.steps.length ≤ 40 ∨ 40 < q.steps.length := by omega
    have hl1 : q.steps.length ≤ 100000 := by omega
    have HL1 := hidI hl1
    clear hlen h1 hl1
    go_enter Try.func18, Try.ntmps18
    go_wp2_with fail
    refine (impl_CodeValid t.steps _ _ h).mono ?_; rintro e w' ⟨rfl, rfl⟩; rw [HA.out]
    go_wp2_with fail
    refine (impl_conditionOf t.steps _ _ h HFit.out h40).mono ?_; rintro e w1 ⟨rfl, b1⟩
    rw [HCO.out, HTV.out]
    go_wp2_with fail
    refine (HP.out _ HK.out).mono ?_; rintro e w2 ⟨rfl, b2⟩
    go_wp2_with fail
    refine (HS.out _ HL1.out HQ.out).mono ?_; rintro e w3 ⟨v3, rfl, o3, b3⟩
    obtain ⟨g3, c3, rfl, -⟩ := own_addr o3 (steps_ne q)
    have O3 := hidI (own_base o3 (base' := w.heap.size) (Nat.le_trans b1.size b2.size))
    have B3 := hidI (bthen b1 (bthen b2 b3))
    clear o3 b1 b2 b3 HM HC
    rcases hcmp with hc | hc
    · go_wp2_with fail
      go_ret2
      rw [HF.out, if_pos hc]
      exact ⟨_, rfl, O3.out, B3.out⟩
    · go_wp2_with fail
      go_ret2
      rw [HF.out, if_neg (by omega)]
      exact ⟨_, rfl, World.ownsRow_nil _ _ _ _, B3.out⟩

set_option maxHeartbeats 1000000 in
theorem spec_CodePush (zs : List Int) (v : Value) (w : World) (h : IntS w v zs) (hl : zs.length ≤ 4000000) :
    Calls Try.prog 17 #[v] w fun e w' => GivesS w w' (codePush zs) e := by
  obtain ⟨ca, aa, e1⟩ : ∃ ca aa, v = .slice aa zs.length ca := by obtain ⟨_, a, c, h1, h2, _⟩ := h; exact ⟨c, a, h1⟩
  subst e1
  cases hv : codeValid zs
  · have HF := hidI (codePush_no hv)
    have HA := hidI hv; clear hv
    go_enter Try.func17, Try.ntmps17
    go_wp2_with fail
    refine (spec_CodeValid zs _ _ h hl).mono ?_; rintro e w' ⟨rfl, rfl⟩; rw [HA.out]
    go_wp2_with fail
    go_ret2
    rw [HF.out]; exact ⟨_, rfl, own_made rfl (Nat.le_refl _) _, (Below.refl _ _).alloc (Nat.le_refl _) _⟩
  · obtain ⟨t, hk, rfl, h40, h1, -, -⟩ := valid_tree hv
    have HA := hidI hv
    have HF := hidI (codePush_tree hv hk)
    have HP := hidI (fun v w (hv : IntS w v t.steps) => spec_l5Push t false v w hv hk (by omega))
    have HL := hidI hl
    have hcmp : (psh t false).steps.length ≤ 40 ∨ 40 < (psh t false).steps.length := by omega
    generalize psh t false = q at *
    clear hv h1 hl hk
    go_enter Try.func17, Try.ntmps17
    go_wp2_with fail
    refine (spec_CodeValid t.steps _ _ h HL.out).mono ?_; rintro e w' ⟨rfl, rfl⟩; rw [HA.out]
    go_wp2_with fail
    refine (HP.out _ _ h).mono ?_; rintro e w1 ⟨v1, rfl, o1, b1⟩
    obtain ⟨g1, c1, rfl, -⟩ := own_addr o1 (steps_ne q)
    have O1 := hidI o1; have B1 := hidI b1
    clear o1 b1
    rcases hcmp with hc | hc
    · go_wp2_with fail
      go_ret2
      rw [HF.out, if_pos hc]
      exact ⟨_, rfl, O1.out, B1.out⟩
    · go_wp2_with fail
      go_ret2
      rw [HF.out, if_neg (by omega)]
      exact ⟨_, rfl, own_made rfl B1.out.size _, B1.out.alloc B1.out.size _⟩

theorem codePush_small (zs : List Int) : ((codePush zs).getD []).length ≤ 40 := by
  unfold codePush
  repeat' split
  · simpa
  · simp
  · simp

theorem codePush_I64 (zs : List Int) : ∀ z ∈ (codePush zs).getD [], I64 z := by
  cases hv : codeValid zs with
  | false => rw [codePush_no hv]; intro z hz; simp at hz
  | true =>
    obtain ⟨t, hk, rfl, h40, h1, -, -⟩ := valid_tree hv
    rw [codePush_tree hv hk]
    split
    · exact steps_I64 (psh_Ok t false hk)
    · intro z hz; simp at hz
end Go.Proofs.Ytballcjfgdolbaa
