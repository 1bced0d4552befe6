/- FnExactCodeText: for every input the law returns true, and its argument reads as before. -/
import Derived.Test.YtballcjfgdolbaaTextS
import Derived.Test.YtballcjfgdolbaaOpen
namespace Go.Proofs.Ytballcjfgdolbaa
open Go.ChangeShapes Go.WideShapes Go.ChangeAt Go.RowKit

set_option maxHeartbeats 400000 in
theorem FnExactCodeText_walk (zs : List Int) (v : Value) (w : World) (h : IntS w v zs) :
    Calls Try.prog 3 #[v] w fun e w' => e = .returned (.bool true) ∧ Below w.heap.size w w' := by
  obtain ⟨ao, cap, hv⟩ : ∃ ao cap, v = .slice ao zs.length cap := by obtain ⟨_, ao, cap, h1, _⟩ := h; exact ⟨ao, cap, h1⟩
  subst hv
  by_cases hbig : 1048576 < zs.length
  · go_enter Try.func3, Try.ntmps3
    go_wp2_with fail
    go_ret
    exact ⟨rfl, Below.refl _ _⟩
  · go_enter Try.func3, Try.ntmps3
    go_wp2_with fail
    refine (toIntS_any zs _ _ h (by omega)).mono ?_; rintro e w1 ⟨rfl, h1, -, b1⟩
    go_wp2_with fail
    refine (spec_CodeText zs _ _ h1 (by omega)).mono ?_; rintro e ws ⟨rfl, bs⟩
    go_wp2_with fail
    have g1 := h.below (bthen b1 bs)
    refine (toIntS_any zs _ _ g1 (by omega)).mono ?_; rintro e w2 ⟨rfl, h2, -, b2⟩
    go_wp2_with fail
    refine (impl_CodeText zs _ _ h2).mono ?_; rintro e wi ⟨rfl, bi⟩
    go_wp2_with fail
    have g2 := g1.below (bthen b2 bi)
    refine (toIntS_any zs _ _ g2 (by omega)).mono ?_; rintro e w3 ⟨rfl, h3, -, b3⟩
    go_wp2_with fail
    refine (eqIntS_any zs zs _ _ _ (h2.below (bthen bi b3)) h3).mono ?_; rintro e w4 ⟨rfl, n, rfl⟩
    simp only [decide_true]
    go_wp2_with fail
    go_ret
    exact ⟨rfl, bthen b1 (bthen bs (bthen b2 (bthen bi (bthen b3 (bdraw _ _)))))⟩

set_option maxRecDepth 100000 in
theorem FnExactCodeText_lifted (os : Os) (started : os.Started) (H : Type) (enc : TypeId × Value → H) :
    ReturnsInHanded {} Try.checked os 3 .any (Rows.fnExactCodeTextSpec.pre6 enc Try.prog Try.f3 Rows.fnExactCodeTextRow.domain false) (Rows.fnExactCodeTextSpec.post enc Try.prog Try.f3 false true false false) := by
  refine returnsInHanded_of_change (C := Try.checked) own started (by kernel_rfl) Try.func3
    (ChangeSpec.witness6 (enc := enc) (C := Try.checked) false ⟨#[], #[.slice none 0 0], []⟩ 8 (by kernel_rfl) (by kernel_rfl) (by kernel_rfl) (by kernel_rfl)) ?_
  intro W base args ds gs before hval0 hW hcnd _
  have hval : ∀ (j : Nat) t v, Try.f3.params[j]? = some t → args[j]? = some v → Value.okWide Try.prog W .any base t v := hval0
  have hW' := hW
  obtain ⟨p, q, hA0, hV, rfl, hfz, hnd⟩ := hW
  have hA : DataW.TrodAll enc Try.prog W 0 (fun _ => true) true Try.f3.params.toList args.toList ds p := hA0
  rw [Try.params3] at hA hval
  obtain ⟨rfl, rfl⟩ := trodVars_none hV
  clear hA0 hval0
  simp only [List.append_nil] at hW'
  obtain ⟨v0, d0, rfl, rfl, h0⟩ := trodAll_one hA
  have l0 : ∀ x ∈ p, x.block < W.heap.size := fun x hx => by simpa using hW'.lt x hx
  have k0 : ∀ (W' : World), Below W.heap.size W W' → DataW.Trod enc Try.prog W' 0 (fun b => decide (b < W.heap.size)) true 22 v0 d0 p := fun W' hn => Below.trod laidOut (by kernel_rfl) (of_decide_eq_true (by kernel_rfl)) h0 hn l0
  obtain ⟨zs, hz⟩ := open_IntS (hval 0 22 v0 rfl rfl) h0 l0
  refine (FnExactCodeText_walk zs v0 W hz).mono fun e W' ⟨he, hb⟩ => ?_
  subst he
  exact ⟨_, rfl, _, _, _, [], _, [], hW', shut_true, trodAll_mk1 (k0 _ hb), rfl, hb.frame _, fun h => by cases h⟩

theorem FnExactCodeText_holds : Rows.FnExactCodeTextSaid :=
  OpenClaim.holds_of_wide 3 Try.f3 rfl rfl rfl rfl rfl rfl rfl ⟨rfl, rfl, rfl, rfl, rfl⟩ rfl rfl rfl rfl rfl (by kernel_rfl) Try.func3 (by kernel_rfl)
    (of_decide_eq_true (by kernel_rfl)) (by unfold Func.isWrapper; first | (rw [if_pos (by decide +kernel)]; kernel_rfl) | (rw [if_neg (by decide +kernel)]; exact ⟨rfl, rfl⟩))
    (fun os started H enc _ => FnExactCodeText_lifted os started H enc)
end Go.Proofs.Ytballcjfgdolbaa
