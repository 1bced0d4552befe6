/- FnReadCode: for every input the law returns true, and its argument reads as before. -/
import Derived.Test.YtndbfdgflflfpaaOpenB
import Derived.Test.YtndbfdgflflfpaaAlive
import Derived.Test.YtndbfdgflflfpaaLawH
import Derived.Test.YtndbfdgflflfpaaDrawR
import Derived.Test.YtndbfdgflflfpaaSt
import Derived.Deep.DeepFit
import Derived.Outline
namespace Go.Proofs.Ytndbfdgflflfpaa
open Go.ChangeShapes Go.WideShapes Go.ChangeAt Go.RowKit

theorem bs_app (a b : ByteArray) : bs (a ++ b) = bs a ++ bs b := by
  unfold bs
  rw [ByteArray.data_append, Array.toList_append, List.map_append]

theorem read_I64 (s : List Nat) : ∀ z ∈ (readCode s).getD [], I64 z := by
  unfold readCode
  repeat' split
  · rename_i t e _
    have hk := (whole_good _ _ _ _ e).2.1
    intro z hz
    have := steps_range t hk z hz
    unfold I64; omega
  · simp
  · simp
  · simp

set_option maxRecDepth 100000 in
set_option maxHeartbeats 2000000 in
theorem FnReadCode_walk (n : Nat) (v : Value) (w : World) (h : BytS w w.heap.size v n) :
    Calls Try.prog 6 #[v] w fun e w' => e = .returned (.bool true) ∧ Below w.heap.size w w' := by
  obtain ⟨bao, bcap, hv⟩ : ∃ ao cap, v = .slice ao n cap := by obtain ⟨ao, cap, h1, _⟩ := h; exact ⟨ao, cap, h1⟩
  subst hv
  have HV := hidI h; clear h
  by_cases hbig : 1048576 < n
  · go_enter Try.func6, Try.ntmps6
    go_wp2_with fail
    go_ret
    exact ⟨rfl, Below.refl _ _⟩
  have hbig2 : (n : Int) ≤ 1048576 := by omega
  go_enter Try.func6, Try.ntmps6
  go_wp2_with fail
  go_fit (spec_DrawReadCode n _ w HV.out); rintro e w1 ⟨s, rfl, hs, b1⟩
  have B1 := hidI b1; clear b1
  have HI := hidI (read_I64 (bs s))
  generalize hob : (readCode (bs s)).isSome = ob
  have HOB := hidI hob; clear hob
  go_wp2_with fail
  go_fit (impl_ReadCode s w1 (by omega)); rintro e w2 ⟨vg, rfl, o2, b2⟩
  rw [HOB.out]
  have B1 := hidI (bthen B1.out b2); have IG := hidI (IntS.ofOwn o2 HI.out).2; clear o2 b2
  obtain ⟨ag, cg, hvg⟩ : ∃ a c, vg = .slice a ((readCode (bs s)).getD []).length c := by obtain ⟨_, a, c, h1, _⟩ := IG.out; exact ⟨a, c, h1⟩
  subst hvg
  go_wp2_with fail
  go_fit (spec_ReadCode s w2 (by omega)); rintro e w3 ⟨vs, rfl, o3, b3⟩
  rw [HOB.out]
  have B1 := hidI (bthen B1.out b3); have IS := hidI (IntS.ofOwn o3 HI.out).2; have IG := hidI (IG.out.below b3); clear o3 b3
  obtain ⟨a5, c5, hvs⟩ : ∃ a c, vs = .slice a ((readCode (bs s)).getD []).length c := by obtain ⟨_, a, c, h1, _⟩ := IS.out; exact ⟨a, c, h1⟩
  subst hvs
  go_wp2_with fail
  go_fit (sameInts_any _ _ _ _ w3 IG.out IS.out); rintro e w4 ⟨rfl, n4, hw4⟩
  have b4 := bdraw w3 n4
  rw [← hw4] at b4
  have B1 := hidI (bthen B1.out b4); have IG := hidI (IG.out.below b4); clear b4 hw4 IS
  simp only [decide_true]
  cases hj : readCode (bs s) with
  | none =>
    have hob : ob = false := by rw [← HOB.out, hj]; rfl
    subst hob
    simp only [Option.getD_none, List.length_nil]
    clear hj
    go_wp2_with fail
    go_fit (laws_alive _); rintro e w9 ⟨rfl, b9⟩
    go_wp2_with fail
    go_ret
    exact ⟨rfl, bthen B1.out b9⟩
  | some q =>
    have hob : ob = true := by rw [← HOB.out, hj]; rfl
    subst hob
    rw [hj] at IG
    simp only [Option.getD_some] at IG ⊢
    obtain ⟨t, hk, htq, hl40, hlen⟩ := read_long hj
    subst htq
    have hval := valid_cond hk hl40
    have HVQ := hidI hval
    have HTX := hidI (codeText_tree hval hk)
    have HQ := hidI (fun z hz => IG.out.1 z hz)
    have hlen2 : (txt t 0).length ≤ s.size := by rw [bs_len] at hlen; exact hlen
    obtain ⟨s2, hs2, AA⟩ : ∃ s2 : ByteArray, s2 = ⟨#[40]⟩ ++ s ∧ ∀ w, (Op.stringOp .add ⟨#[40]⟩ s).run Try.prog w = .ok (.string s2) w := ⟨_, rfl, fun w => run_string_add_sum w ⟨#[40]⟩ s (by have : ByteArray.size ⟨#[40]⟩ = 1 := rfl; omega)⟩
    have hz2 : s2.size = s.size + 1 := by rw [hs2, ByteArray.size_append]; have : ByteArray.size ⟨#[40]⟩ = 1 := rfl; omega
    obtain ⟨s3, hs3, AB⟩ : ∃ s3 : ByteArray, s3 = s2 ++ ⟨#[41]⟩ ∧ ∀ w, (Op.stringOp .add s2 ⟨#[41]⟩).run Try.prog w = .ok (.string s3) w := ⟨_, rfl, fun w => run_string_add_sum w s2 ⟨#[41]⟩ (by have : ByteArray.size ⟨#[41]⟩ = 1 := rfl; omega)⟩
    have hz3 : s3.size ≤ 10000 := by rw [hs3, ByteArray.size_append]; have : ByteArray.size ⟨#[41]⟩ = 1 := rfl; omega
    have hb3 : bs s3 = 40 :: (bs s ++ [41]) := by rw [hs3, hs2, bs_app, bs_app]; rfl
    have HR3 := hidI (show s.size ≤ 197 → readCode (bs s3) = some t.steps from fun hs => by rw [hb3]; exact read_brackets (by rw [bs_len]; exact hs) hj)
    have HI3 := hidI (read_I64 (bs s3))
    clear hs2 hs3 hb3 hz2 hj hlen hval HI hl40
    by_cases h197 : 197 < s.size
    · have h197i : (197 : Int) < (s.size : Int) := by omega
      go_wp2_with fail
      go_fit (impl_ReadCode s3 _ (by omega)); rintro e w5 ⟨vh, rfl, o5, b5⟩
      have B1 := hidI (bthen B1.out b5); have IG := hidI (IG.out.below b5)
      obtain ⟨ah, ch, hvh⟩ := own_slice o5
      subst hvh
      clear o5 b5
      go_wp2_with fail
      go_fit (impl_CodeValid t.steps _ _ IG.out); rintro e w' ⟨rfl, rfl⟩
      rw [HVQ.out]
      go_wp2_with fail
      go_fit (impl_CodeText t.steps _ _ IG.out); rintro e w6 ⟨rfl, b6⟩
      have hle : ((TB (codeText t.steps)).size : Int) ≤ (s.size : Int) := by rw [HTX.out, TB_size]; omega
      have B1 := hidI (bthen B1.out b6); clear b6
      go_wp2_with fail
      go_ret
      exact ⟨rfl, B1.out⟩
    · have h197i : ¬ (197 : Int) < (s.size : Int) := by omega
      have R3 := HR3.out (by omega)
      rw [R3] at HI3
      have HRS := hidI R3
      clear R3 HR3
      go_wp2_with fail
      go_fit (impl_ReadCode s3 _ (by omega)); rintro e w5 ⟨vh, rfl, o5, b5⟩
      rw [HRS.out] at o5 ⊢
      simp only [Option.getD_some] at o5
      rw [show (some t.steps).isSome = true from rfl]
      have B1 := hidI (bthen B1.out b5); have IG := hidI (IG.out.below b5)
      have IH := hidI (IntS.ofOwn o5 HI3.out).2
      obtain ⟨ah, ch, hvh⟩ := own_slice o5
      subst hvh
      clear o5 b5
      go_wp2_with fail
      go_fit (impl_CodeValid t.steps _ _ IG.out); rintro e w' ⟨rfl, rfl⟩
      rw [HVQ.out]
      go_wp2_with fail
      go_fit (impl_CodeText t.steps _ _ IG.out); rintro e w6 ⟨rfl, b6⟩
      have hle : ((TB (codeText t.steps)).size : Int) ≤ (s.size : Int) := by rw [HTX.out, TB_size]; omega
      have B1 := hidI (bthen B1.out b6); have IG := hidI (IG.out.below b6); have IH := hidI (IH.out.below b6); clear b6
      go_wp2_with fail
      go_fit (sameInts_any _ _ _ _ _ IH.out IG.out); rintro e w7 ⟨rfl, n7, rfl⟩
      have B1 := hidI (bthen B1.out (bdraw w6 n7))
      simp only [decide_true]
      go_wp2_with fail
      go_ret
      exact ⟨rfl, B1.out⟩

set_option maxRecDepth 100000 in
theorem FnReadCode_lifted (os : Os) (started : os.Started) (H : Type) (enc : TypeId × Value → H) :
    ReturnsInHanded {} Try.checked os 6 .any (Rows.fnReadCodeSpec.pre6 enc Try.prog Try.f6 Rows.fnReadCodeRow.domain false) (Rows.fnReadCodeSpec.post enc Try.prog Try.f6 false true false false) := by
  refine returnsInHanded_of_change (C := Try.checked) own started (by kernel_rfl) Try.func6
    (ChangeSpec.witness6 (enc := enc) (C := Try.checked) false ⟨#[], #[.slice none 0 0], []⟩ 8 (by kernel_rfl) (by kernel_rfl) (by kernel_rfl) (by kernel_rfl)) ?_
  intro W base args ds gs before hval0 hW hcnd _
  have hval : ∀ (j : Nat) t v, Try.f6.params[j]? = some t → args[j]? = some v → Value.okWide Try.prog W .any base t v := hval0
  have hW' := hW
  obtain ⟨p, q, hA0, hV, rfl, hfz, hnd⟩ := hW
  have hA : DataW.TrodAll enc Try.prog W 0 (fun _ => true) true Try.f6.params.toList args.toList ds p := hA0
  rw [Try.params6] at hA hval
  obtain ⟨rfl, rfl⟩ := trodVars_none hV
  clear hA0 hval0
  simp only [List.append_nil] at hW'
  obtain ⟨v0, d0, rfl, rfl, h0⟩ := trodAll_one hA
  have l0 : ∀ x ∈ p, x.block < W.heap.size := fun x hx => by simpa using hW'.lt x hx
  have k0 : ∀ (W' : World), Below W.heap.size W W' → DataW.Trod enc Try.prog W' 0 (fun b => decide (b < W.heap.size)) true 40 v0 d0 p := fun W' hn => Below.trod laidOut (by kernel_rfl) (of_decide_eq_true (by kernel_rfl)) h0 hn l0
  obtain ⟨n, hn⟩ := open_BytS (hval 0 40 v0 rfl rfl) h0 l0
  refine (FnReadCode_walk n v0 W hn).mono fun e W' ⟨he, hb⟩ => ?_
  subst he
  exact ⟨_, rfl, _, _, _, [], _, [], hW', shut_true, trodAll_mk1 (k0 _ hb), rfl, hb.frame _, fun h => by cases h⟩

theorem FnReadCode_holds : Rows.FnReadCodeSaid :=
  OpenClaim.holds_of_wide 6 Try.f6 rfl rfl rfl rfl rfl rfl rfl ⟨rfl, rfl, rfl, rfl, rfl⟩ rfl rfl rfl rfl rfl (by kernel_rfl) Try.func6 (by kernel_rfl)
    (of_decide_eq_true (by kernel_rfl)) (by unfold Func.isWrapper; first | (rw [if_pos (by decide +kernel)]; kernel_rfl) | (rw [if_neg (by decide +kernel)]; exact ⟨rfl, rfl⟩))
    (fun os started H enc _ => FnReadCode_lifted os started H enc)
end Go.Proofs.Ytndbfdgflflfpaa
