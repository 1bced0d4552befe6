/- FnExactCodeSimple: for every input the law returns true, and its argument reads as before. -/
import Derived.Test.YtballcjfgdolbaaTreeD
import Derived.Test.YtballcjfgdolbaaMark
import Derived.Test.YtballcjfgdolbaaOpen
import Derived.Outline
namespace Go.Proofs.Ytballcjfgdolbaa
open Go.ChangeShapes Go.WideShapes Go.ChangeAt Go.RowKit

theorem marks_I64' {k n : Nat} (h : k + n ≤ 100000000) : ∀ z ∈ marks k n, I64 z := by
  intro z hz
  have := marks_mem hz
  unfold I64; omega

set_option maxHeartbeats 1000000 in
theorem FnExactCodeSimple_walk (zs : List Int) (v : Value) (w : World) (h : IntS w v zs) :
    Calls Try.prog 6 #[v] w fun e w' => e = .returned (.bool true) ∧ Below w.heap.size w w' := by
  obtain ⟨ao, cap, hv⟩ : ∃ ao cap, v = .slice ao zs.length cap := by obtain ⟨_, ao, cap, h1, _⟩ := h; exact ⟨ao, cap, h1⟩
  subst hv
  by_cases hbig : 1048576 < zs.length
  · go_enter Try.func6, Try.ntmps6
    go_wp2_with fail
    go_ret
    exact ⟨rfl, Below.refl _ _⟩
  · have hsm : (codeSimple zs).length ≤ 40 := codeSimple_small zs
    have HI := hidI (codeSimple_I64 zs)
    have HIX := hidI (fun (w' : World) (hb : Below w.heap.size w w') => h.below hb)
    go_enter Try.func6, Try.ntmps6
    go_wp2_with fail
    refine (toIntS_any zs _ _ h (by omega)).mono ?_; rintro e w1 ⟨rfl, h1, -, b1⟩
    go_wp2_with fail
    refine (spec_CodeSimple zs _ _ h1 (by omega)).mono ?_; rintro e w2 ⟨vw, rfl, o2, b2⟩
    have B2 := bthen b1 b2
    have HO2 := hidI o2; clear o2
    go_wp2_with fail
    refine (toIntS_any zs _ _ (HIX.out _ B2) (by omega)).mono ?_; rintro e w3 ⟨rfl, h3, r3, b3⟩
    have B3 := bthen B2 b3
    have HR3 := hidI r3; clear r3
    go_wp2_with fail
    refine (impl_CodeSimple zs _ _ h3).mono ?_; rintro e w4 ⟨vg, rfl, o4, b4⟩
    have B4 := bthen B3 b4
    have HO4 := hidI o4; clear o4
    obtain ⟨-, i2⟩ := IntS.ofOwn HO2.out HI.out
    obtain ⟨-, i4⟩ := IntS.ofOwn HO4.out HI.out
    go_wp2_with fail
    refine (eqIntS_any _ _ _ _ _ i4 (i2.below (bthen b3 b4))).mono ?_; rintro e w5 ⟨rfl, n5, rfl⟩
    have b5 := bdraw w4 n5
    have B5 := bthen B4 b5
    simp only [decide_true]
    go_wp2_with fail
    refine (toIntS_any zs _ _ (HIX.out _ B5) (by omega)).mono ?_; rintro e w6 ⟨rfl, h6, -, b6⟩
    have B6 := bthen B5 b6
    go_wp2_with fail
    refine (eqIntS_any zs zs _ _ _ (h3.below (bthen b4 (bthen b5 b6))) h6).mono ?_; rintro e w7 ⟨rfl, n7, rfl⟩
    have b7 := bdraw w6 n7
    have B7 := bthen B6 b7
    simp only [decide_true]
    have b37 := bthen b4 (bthen b5 (bthen b6 b7))
    have b47 := bthen b5 (bthen b6 b7)
    have hO3 := hidI (own_below (own_of_row (xs := zs.map (Value.int .i64)) HR3.out (by simp) (by intro j hj; simp [List.getD, hj]) (by unfold maxLen; omega)) b37)
    have hO2 := hidI (own_below HO2.out (bthen b3 b37))
    have hO4 := hidI (own_below HO4.out b47)
    clear h3 h6 h1 i2 i4
    have s3 := b3.size; have s4 := b4.size
    have hW := hidI (fun k (hk : vw.ownBlock = some k) => (HO2.out.lt k hk).2)
    have hG := hidI (fun k (hk : vg.ownBlock = some k) => (HO4.out.lt k hk).1)
    have z3 : w2.heap.size < w3.heap.size := HR3.out.lt
    go_wp2_with fail
    refine (markIntS_q zs.length _ _ _ 1 _ _ rfl hO3.out (by omega) (by omega)).mono ?_; rintro e w8 ⟨rfl, -, g8⟩
    have g8' : (w6.drewN n7).grownBy w8 (some w2.heap.size) := g8
    have B8 := B7.grown g8' (by exact B7.size) (by intro k hk; cases hk; exact B2.size)
    have P2 := hidI (own_grown hO2.out g8' (fun k hk => by have := hW.out k hk; omega))
    have P4 := hidI (own_grown hO4.out g8' (fun k hk => by have := hG.out k hk; omega))
    clear g8 g8'
    obtain ⟨-, j2⟩ := IntS.ofOwn P2.out HI.out
    obtain ⟨-, j4⟩ := IntS.ofOwn P4.out HI.out
    go_wp2_with fail
    refine (eqIntS_any _ _ _ _ _ j4 j2).mono ?_; rintro e w9 ⟨rfl, n9, rfl⟩
    have b9 := bdraw w8 n9
    have B9 := bthen B8 b9
    have R2 := hidI (own_below P2.out b9)
    have R4 := hidI (own_below P4.out b9)
    simp only [decide_true]
    go_wp2_with fail
    refine (markIntS_q _ _ _ _ 1 _ _ rfl R4.out (by omega) (by omega)).mono ?_; rintro e w10 ⟨rfl, o10, g10⟩
    have hgb : ∀ k, vg.ownBlock = some k → w.heap.size ≤ k := fun k hk => Nat.le_trans B3.size (hG.out k hk)
    have B10 := B9.grown g10 B9.size hgb
    have T2 := hidI (R2.out.kept g10 (by
      cases e : vw.ownBlock with
      | none => exact .inl rfl
      | some k => exact .inr (fun h' => by have h1 := hW.out k e; have h2 := hG.out k h'.symm; omega)))
    obtain ⟨hml, j10⟩ := IntS.ofOwn o10 (marks_I64' (by omega))
    rw [marks_length] at hml
    have hO10 := hidI o10; clear o10 g10 hml
    go_wp2_with fail
    refine (heldIntS_q _ _ 1 _ _ rfl j10 (by omega) (by omega)).mono ?_; rintro e w' ⟨rfl, rfl⟩
    go_wp2_with fail
    refine (toIntS_any zs _ _ (HIX.out _ B10) (by omega)).mono ?_; rintro e w11 ⟨rfl, h11, -, b11⟩
    have B11 := bthen B10 b11
    go_wp2_with fail
    refine (impl_CodeSimple zs _ _ h11).mono ?_; rintro e w12 ⟨vh, rfl, o12, b12⟩
    have B12 := bthen B11 b12
    obtain ⟨-, i12⟩ := IntS.ofOwn o12 HI.out
    have HO12 := hidI o12; clear o12
    obtain ⟨-, k2⟩ := IntS.ofOwn (own_below T2.out (bthen b11 b12)) HI.out
    go_wp2_with fail
    refine (eqIntS_any _ _ _ _ _ i12 k2).mono ?_; rintro e w13 ⟨rfl, n13, rfl⟩
    have b13 := bdraw w12 n13
    have B13 := bthen B12 b13
    simp only [decide_true]
    go_wp2_with fail
    refine (heldIntS_q _ _ 1 _ _ rfl (j10.below (bthen b11 (bthen b12 b13))) (by omega) (by omega)).mono ?_; rintro e w' ⟨rfl, rfl⟩
    go_wp2_with fail
    go_ret
    exact ⟨rfl, B13⟩

set_option maxRecDepth 100000 in
theorem FnExactCodeSimple_lifted (os : Os) (started : os.Started) (H : Type) (enc : TypeId × Value → H) :
    ReturnsInHanded {} Try.checked os 6 .any (Rows.fnExactCodeSimpleSpec.pre6 enc Try.prog Try.f6 Rows.fnExactCodeSimpleRow.domain false) (Rows.fnExactCodeSimpleSpec.post enc Try.prog Try.f6 false true false false) := by
  refine returnsInHanded_of_change (C := Try.checked) own started (by kernel_rfl) Try.func6
    (ChangeSpec.witness6 (enc := enc) (C := Try.checked) false ⟨#[], #[.slice none 0 0], []⟩ 8 (by kernel_rfl) (by kernel_rfl) (by kernel_rfl) (by kernel_rfl)) ?_
  intro W base args ds gs before hval0 hW hcnd _
  have hval : ∀ (j : Nat) t v, Try.f6.params[j]? = some t → args[j]? = some v → Value.okWide Try.prog W .any base t v := hval0
  have hW' := hW
  obtain ⟨p, q, hA0, hV, rfl, hfz, hnd⟩ := hW
  have hA : DataW.TrodAll enc Try.prog W 0 (fun _ => true) true Try.f6.params.toList args.toList ds p := hA0
  rw [Try.params6] at hA hval
  obtain ⟨rfl, rfl⟩ := trodVars_none hV
  clear hA0 hval0
  simp only [List.append_nil] at hW'
  obtain ⟨v0, d0, rfl, rfl, h0⟩ := trodAll_one hA
  have l0 : ∀ x ∈ p, x.block < W.heap.size := fun x hx => by simpa using hW'.lt x hx
  have k0 : ∀ (W' : World), Below W.heap.size W W' → DataW.Trod enc Try.prog W' 0 (fun b => decide (b < W.heap.size)) true 22 v0 d0 p := fun W' hn => Below.trod laidOut (by kernel_rfl) (of_decide_eq_true (by kernel_rfl)) h0 hn l0
  obtain ⟨zs, hz⟩ := open_IntS (hval 0 22 v0 rfl rfl) h0 l0
  refine (FnExactCodeSimple_walk zs v0 W hz).mono fun e W' ⟨he, hb⟩ => ?_
  subst he
  exact ⟨_, rfl, _, _, _, [], _, [], hW', shut_true, trodAll_mk1 (k0 _ hb), rfl, hb.frame _, fun h => by cases h⟩

theorem FnExactCodeSimple_holds : Rows.FnExactCodeSimpleSaid :=
  OpenClaim.holds_of_wide 6 Try.f6 rfl rfl rfl rfl rfl rfl rfl ⟨rfl, rfl, rfl, rfl, rfl⟩ rfl rfl rfl rfl rfl (by kernel_rfl) Try.func6 (by kernel_rfl)
    (of_decide_eq_true (by kernel_rfl)) (by unfold Func.isWrapper; first | (rw [if_pos (by decide +kernel)]; kernel_rfl) | (rw [if_neg (by decide +kernel)]; exact ⟨rfl, rfl⟩))
    (fun os started H enc _ => FnExactCodeSimple_lifted os started H enc)
end Go.Proofs.Ytballcjfgdolbaa
