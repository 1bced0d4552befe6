/- spec.CodeSimple. -/
import Derived.Test.YtnalhgknjnaliaaTreeR
import Derived.Test.YtnalhgknjnaliaaCdV
namespace Go.Proofs.Ytnalhgknjnaliaa
open Go.RowKit

def codeSimple (zs : List Int) : List Int := if codeValid zs = true then (smp (condOf zs)).steps else []

theorem codeSimple_no {zs : List Int} (h : codeValid zs = false) : codeSimple zs = [] := by unfold codeSimple; rw [h]; simp
theorem codeSimple_tree {t : Cond} (h : codeValid t.steps = true) (hk : t.Ok) : codeSimple t.steps = (smp t).steps := by
  unfold codeSimple; rw [if_pos h, condOf_steps t hk]

theorem codeSimple_small (zs : List Int) : (codeSimple zs).length ≤ 40 := by
  cases hv : codeValid zs with
  | false => rw [codeSimple_no hv]; simp
  | true =>
    obtain ⟨t, hk, rfl, h40, h1, -, -⟩ := valid_tree hv
    rw [codeSimple_tree hv hk]
    have := smp_len t
    omega

theorem codeSimple_I64 (zs : List Int) : ∀ z ∈ codeSimple zs, I64 z := by
  cases hv : codeValid zs with
  | false => rw [codeSimple_no hv]; intro z hz; simp at hz
  | true =>
    obtain ⟨t, hk, rfl, h40, h1, -, -⟩ := valid_tree hv
    rw [codeSimple_tree hv hk]
    exact steps_I64 (smp_Ok t hk)

set_option maxHeartbeats 1000000 in
theorem spec_CodeSimple (zs : List Int) (v : Value) (w : World) (h : IntS w v zs) (hl : zs.length ≤ 4000000) :
    Calls Try.prog 34 #[v] w fun e w' => GivesL w w' (codeSimple zs) e := by
  obtain ⟨ca, aa, e1⟩ : ∃ ca aa, v = .slice aa zs.length ca := by obtain ⟨_, a, c, h1, h2, _⟩ := h; exact ⟨c, a, h1⟩
  subst e1
  cases hv : codeValid zs
  · have HF := hidI (codeSimple_no hv)
    have HA := hidI hv; clear hv
    go_enter Try.func34, Try.ntmps34
    go_wp2_with fail
    refine (spec_CodeValid zs _ _ h hl).mono ?_; rintro e w' ⟨rfl, rfl⟩; rw [HA.out]
    go_wp2_with fail
    go_ret
    rw [HF.out]; exact ⟨_, rfl, own_made rfl (Nat.le_refl _) _, (Below.refl _ _).alloc (Nat.le_refl _) _⟩
  · obtain ⟨t, hk, rfl, h40, h1, -, -⟩ := valid_tree hv
    have HA := hidI hv
    have HF := hidI (codeSimple_tree hv hk)
    have HP := hidI (fun v w (hv : IntS w v t.steps) => spec_l5Simple t v w hv hk (by omega))
    have HL := hidI hl
    generalize smp t = q at *
    clear hv h1 hl hk
    go_enter Try.func34, Try.ntmps34
    go_wp2_with fail
    refine (spec_CodeValid t.steps _ _ h HL.out).mono ?_; rintro e w' ⟨rfl, rfl⟩; rw [HA.out]
    go_wp2_with fail
    refine (HP.out _ _ h).mono ?_; rintro e w1 ⟨v1, rfl, o1, b1⟩
    obtain ⟨g1, c1, rfl, -⟩ := own_addr o1 (steps_ne q)
    have O1 := hidI o1; have B1 := hidI b1
    clear o1 b1
    go_wp2_with fail
    go_ret
    rw [HF.out]
    exact ⟨_, rfl, O1.out, B1.out⟩
end Go.Proofs.Ytnalhgknjnaliaa
