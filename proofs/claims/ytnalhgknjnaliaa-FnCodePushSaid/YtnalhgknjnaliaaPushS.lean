/- spec.CodePush. -/
import Derived.Test.YtnalhgknjnaliaaTreeN
import Derived.Test.YtnalhgknjnaliaaCdV
namespace Go.Proofs.Ytnalhgknjnaliaa
open Go.RowKit

def codePush (zs : List Int) : Option (List Int) :=
  if codeValid zs = true then (if (psh (condOf zs) false).steps.length ≤ 40 then some (psh (condOf zs) false).steps else none) else none

theorem codePush_no {zs : List Int} (h : codeValid zs = false) : codePush zs = none := by unfold codePush; rw [h]; simp
theorem codePush_tree {t : Cond} (h : codeValid t.steps = true) (hk : t.Ok) : codePush t.steps = if (psh t false).steps.length ≤ 40 then some (psh t false).steps else none := by
  unfold codePush; rw [if_pos h, condOf_steps t hk]

set_option maxHeartbeats 1000000 in
theorem spec_CodePush (zs : List Int) (v : Value) (w : World) (h : IntS w v zs) (hl : zs.length ≤ 4000000) :
    Calls Try.prog 18 #[v] w fun e w' => GivesS w w' (codePush zs) e := by
  obtain ⟨ca, aa, e1⟩ : ∃ ca aa, v = .slice aa zs.length ca := by obtain ⟨_, a, c, h1, h2, _⟩ := h; exact ⟨c, a, h1⟩
  subst e1
  cases hv : codeValid zs
  · have HF := hidI (codePush_no hv)
    have HA := hidI hv; clear hv
    go_enter Try.func18, Try.ntmps18
    go_wp2_with fail
    refine (spec_CodeValid zs _ _ h hl).mono ?_; rintro e w' ⟨rfl, rfl⟩; rw [HA.out]
    go_wp2_with fail
    go_ret2
    rw [HF.out]; exact ⟨_, rfl, own_made rfl (Nat.le_refl _) _, (Below.refl _ _).alloc (Nat.le_refl _) _⟩
  · obtain ⟨t, hk, rfl, h40, h1, -, -⟩ := valid_tree hv
    have HA := hidI hv
    have HF := hidI (codePush_tree hv hk)
    have HP := hidI (fun v w (hv : IntS w v t.steps) => spec_l5Push t false v w hv hk (by omega))
    have HL := hidI hl
    have hcmp : (psh t false).steps.length ≤ 40 ∨ 40 < (psh t false).steps.length := by omega
    generalize psh t false = q at *
    clear hv h1 hl hk
    go_enter Try.func18, Try.ntmps18
    go_wp2_with fail
    refine (spec_CodeValid t.steps _ _ h HL.out).mono ?_; rintro e w' ⟨rfl, rfl⟩; rw [HA.out]
    go_wp2_with fail
    refine (HP.out _ _ h).mono ?_; rintro e w1 ⟨v1, rfl, o1, b1⟩
    obtain ⟨g1, c1, rfl, -⟩ := own_addr o1 (steps_ne q)
    have O1 := hidI o1; have B1 := hidI b1
    clear o1 b1
    rcases hcmp with hc | hc
    · go_wp2_with fail
      go_ret2
      rw [HF.out, if_pos hc]
      exact ⟨_, rfl, O1.out, B1.out⟩
    · go_wp2_with fail
      go_ret2
      rw [HF.out, if_neg (by omega)]
      exact ⟨_, rfl, own_made rfl B1.out.size _, B1.out.alloc B1.out.size _⟩

theorem codePush_small (zs : List Int) : ((codePush zs).getD []).length ≤ 40 := by
  unfold codePush
  repeat' split
  · simpa
  · simp
  · simp

theorem codePush_I64 (zs : List Int) : ∀ z ∈ (codePush zs).getD [], I64 z := by
  cases hv : codeValid zs with
  | false => rw [codePush_no hv]; intro z hz; simp at hz
  | true =>
    obtain ⟨t, hk, rfl, h40, h1, -, -⟩ := valid_tree hv
    rw [codePush_tree hv hk]
    split
    · exact steps_I64 (psh_Ok t false hk)
    · intro z hz; simp at hz
end Go.Proofs.Ytnalhgknjnaliaa
