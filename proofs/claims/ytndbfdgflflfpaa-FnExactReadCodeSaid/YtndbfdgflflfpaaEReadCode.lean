/- FnExactReadCode: for every input the law returns true, and its argument reads as before. -/
import Derived.Test.YtndbfdgflflfpaaRw
import Derived.Test.YtndbfdgflflfpaaSt
import Derived.Test.YtndbfdgflflfpaaMark
import Derived.Test.YtndbfdgflflfpaaOpen
import Derived.Outline
namespace Go.Proofs.Ytndbfdgflflfpaa
open Go.ChangeShapes Go.WideShapes Go.ChangeAt Go.RowKit
open Go.ChangeMaps (open_string shut_string)

theorem marks_I64r {k n : Nat} (h : k + n ≤ 100000000) : ∀ z ∈ marks k n, I64 z := by
  intro z hz
  have := marks_mem hz
  unfold I64; omega

theorem readCode_small (s : List Nat) : ((readCode s).getD []).length ≤ 40 := by
  unfold readCode
  repeat' split
  · simpa
  · simp
  · simp
  · simp

theorem readCode_I64 (s : List Nat) : ∀ z ∈ (readCode s).getD [], I64 z := by
  unfold readCode
  repeat' split
  · rename_i t e _
    have hk := (whole_good _ _ _ _ e).2.1
    intro z hz
    have := steps_range t hk z hz
    unfold I64; omega
  · simp
  · simp
  · simp

set_option maxHeartbeats 1000000 in
theorem FnExactReadCode_walk (s : ByteArray) (w : World) (hs : s.size ≤ maxLen) :
    Calls Try.prog 3 #[.string s] w fun e w' => e = .returned (.bool true) ∧ Below w.heap.size w w' := by
  unfold maxLen at hs
  by_cases hbig : 1048576 < s.size
  · go_enter Try.func3, Try.ntmps3
    go_wp2_with fail
    go_ret
    exact ⟨rfl, Below.refl _ _⟩
  · have hsm : ((readCode (bs s)).getD []).length ≤ 40 := readCode_small _
    have HI := hidI (readCode_I64 (bs s))
    generalize hob : (readCode (bs s)).isSome = ob
    have HOB := hidI hob; clear hob
    go_enter Try.func3, Try.ntmps3
    go_wp2_with fail
    refine (spec_ReadCode s _ (by omega)).mono ?_; rintro e w2 ⟨vw, rfl, o2, b2⟩
    rw [HOB.out]
    have B2 := b2
    have HO2 := hidI o2; clear o2
    go_wp2_with fail
    refine (impl_ReadCode s _ (by omega)).mono ?_; rintro e w4 ⟨vg, rfl, o4, b4⟩
    rw [HOB.out]
    have B4 := bthen B2 b4
    have HO4 := hidI o4; clear o4
    obtain ⟨-, i2⟩ := IntS.ofOwn HO2.out HI.out
    obtain ⟨-, i4⟩ := IntS.ofOwn HO4.out HI.out
    go_wp2_with fail
    refine (eqIntS_any _ _ _ _ _ i4 (i2.below b4)).mono ?_; rintro e w5 ⟨rfl, n5, rfl⟩
    have b5 := bdraw w4 n5
    have B5 := bthen B4 b5
    simp only [decide_true]
    have hO2 := hidI (own_below HO2.out (bthen b4 b5))
    have hO4 := hidI (own_below HO4.out b5)
    clear i2 i4
    have s4 := b4.size
    have hW := hidI (fun k (hk : vw.ownBlock = some k) => (HO2.out.lt k hk).2)
    have hG := hidI (fun k (hk : vg.ownBlock = some k) => (HO4.out.lt k hk).1)
    have R2 := hO2
    have R4 := hO4
    go_wp2_with fail
    refine (markIntS_q _ _ _ _ 1 _ _ rfl R4.out (by omega) (by omega)).mono ?_; rintro e w10 ⟨rfl, o10, g10⟩
    have hgb : ∀ k, vg.ownBlock = some k → w.heap.size ≤ k := fun k hk => Nat.le_trans B2.size (hG.out k hk)
    have B10 := B5.grown g10 B5.size hgb
    have T2 := hidI (R2.out.kept g10 (by
      cases e : vw.ownBlock with
      | none => exact .inl rfl
      | some k => exact .inr (fun h' => by have h1 := hW.out k e; have h2 := hG.out k h'.symm; omega)))
    obtain ⟨hml, j10⟩ := IntS.ofOwn o10 (marks_I64r (by omega))
    rw [marks_length] at hml
    have hO10 := hidI o10; clear o10 g10 hml
    go_wp2_with fail
    refine (heldIntS_q _ _ 1 _ _ rfl j10 (by omega) (by omega)).mono ?_; rintro e w' ⟨rfl, rfl⟩
    go_wp2_with fail
    refine (impl_ReadCode s _ (by omega)).mono ?_; rintro e w12 ⟨vh, rfl, o12, b12⟩
    rw [HOB.out]
    have B12 := bthen B10 b12
    obtain ⟨-, i12⟩ := IntS.ofOwn o12 HI.out
    have HO12 := hidI o12; clear o12
    obtain ⟨-, k2⟩ := IntS.ofOwn (own_below T2.out b12) HI.out
    go_wp2_with fail
    refine (eqIntS_any _ _ _ _ _ i12 k2).mono ?_; rintro e w13 ⟨rfl, n13, rfl⟩
    have b13 := bdraw w12 n13
    have B13 := bthen B12 b13
    simp only [decide_true]
    go_wp2_with fail
    refine (heldIntS_q _ _ 1 _ _ rfl (j10.below (bthen b12 b13)) (by omega) (by omega)).mono ?_; rintro e w' ⟨rfl, rfl⟩
    go_wp2_with fail
    go_ret
    exact ⟨rfl, B13⟩

set_option maxRecDepth 100000 in
theorem FnExactReadCode_lifted (os : Os) (started : os.Started) (H : Type) (enc : TypeId × Value → H) :
    ReturnsInHanded {} Try.checked os 3 .any (Rows.fnExactReadCodeSpec.pre6 enc Try.prog Try.f3 Rows.fnExactReadCodeRow.domain false) (Rows.fnExactReadCodeSpec.post enc Try.prog Try.f3 false true false false) := by
  refine returnsInHanded_of_change (C := Try.checked) own started (by kernel_rfl) Try.func3
    (ChangeSpec.witness6 (enc := enc) (C := Try.checked) false ⟨#[], #[.string ByteArray.empty], []⟩ 8 (by kernel_rfl) (by kernel_rfl) (by kernel_rfl) (by kernel_rfl)) ?_
  intro W base args ds gs before hval0 hW hcnd _
  have hval : ∀ (j : Nat) t v, Try.f3.params[j]? = some t → args[j]? = some v → Value.okWide Try.prog W .any base t v := hval0
  have hW' := hW
  obtain ⟨p, q, hA0, hV, rfl, hfz, hnd⟩ := hW
  have hA : DataW.TrodAll enc Try.prog W 0 (fun _ => true) true Try.f3.params.toList args.toList ds p := hA0
  rw [Try.params3] at hA hval
  obtain ⟨rfl, rfl⟩ := trodVars_none hV
  clear hA0 hval0
  simp only [List.append_nil] at hW'
  obtain ⟨v0, d0, rfl, rfl, h0⟩ := trodAll_one hA
  have l0 : ∀ x ∈ p, x.block < W.heap.size := fun x hx => by simpa using hW'.lt x hx
  have k0 : ∀ (W' : World), Below W.heap.size W W' → DataW.Trod enc Try.prog W' 0 (fun b => decide (b < W.heap.size)) true 9 v0 d0 p := fun W' hn => Below.trod laidOut (by kernel_rfl) (of_decide_eq_true (by kernel_rfl)) h0 hn l0
  obtain ⟨s, rfl, hd, hp, hs⟩ := open_string Try.underlying9 (hval 0 9 v0 rfl rfl) h0
  refine (FnExactReadCode_walk s W hs).mono fun e W' ⟨he, hb⟩ => ?_
  subst he
  exact ⟨_, rfl, _, _, _, [], _, [], hW', shut_true, trodAll_mk1 (k0 _ hb), rfl, hb.frame _, fun h => by cases h⟩

theorem FnExactReadCode_holds : Rows.FnExactReadCodeSaid :=
  OpenClaim.holds_of_wide 3 Try.f3 rfl rfl rfl rfl rfl rfl rfl ⟨rfl, rfl, rfl, rfl, rfl⟩ rfl rfl rfl rfl rfl (by kernel_rfl) Try.func3 (by kernel_rfl)
    (of_decide_eq_true (by kernel_rfl)) (by unfold Func.isWrapper; first | (rw [if_pos (by decide +kernel)]; kernel_rfl) | (rw [if_neg (by decide +kernel)]; exact ⟨rfl, rfl⟩))
    (fun os started H enc _ => FnExactReadCode_lifted os started H enc)
end Go.Proofs.Ytndbfdgflflfpaa
