/- FnExactCodeJoin: for every input the law returns true, and its arguments read as before. -/
import Derived.Test.YtfofjghcofjojaaSame
import Derived.Test.YtfofjghcofjojaaMark
import Derived.Test.YtfofjghcofjojaaOpen
import Derived.Outline
namespace Go.Proofs.Ytfofjghcofjojaa
open Go.ChangeShapes Go.WideShapes Go.ChangeAt Go.RowKit

theorem own_below {w w' : World} {base : Nat} {e : TypeId} {v : Value} {n : Nat} {xs : List Value} (h : w.ownsRow base e 1 v n xs) (hb : Below w.heap.size w w') : w'.ownsRow base e 1 v n xs := by
  obtain ⟨h1, h2⟩ := h
  rcases h2 with h2 | ⟨g, cap, cur, a1, a2, a3, a4⟩
  · exact ⟨h1, .inl h2⟩
  · exact ⟨h1, .inr ⟨g, cap, cur, a1, a2, by rw [hb.block g (Array.getElem?_eq_some_iff.1 a3).1]; exact a3, a4⟩⟩

theorem ne_block {v : Value} {g : Nat} (h : ∀ k, v.ownBlock = some k → k ≠ g) : v.ownBlock = none ∨ v.ownBlock ≠ some g := by
  cases e : v.ownBlock with
  | none => exact .inl rfl
  | some k => exact .inr (fun h' => h k e (Option.some.inj h'))

theorem codeJoin_small (xs ys : List Int) (s : Int) : ((codeJoin xs ys s).getD []).length ≤ 40 := by
  unfold codeJoin
  by_cases h : (s = 8 ∨ s = 9) ∧ codeValid xs = true ∧ codeValid ys = true ∧ xs.length + ys.length + 1 ≤ 40
  · rw [if_pos h]; have := h.2.2.2; simp; omega
  · rw [if_neg h]; simp

theorem codeJoin_I64 {xs ys : List Int} {s : Int} (hx : ∀ z ∈ xs, I64 z) (hy : ∀ z ∈ ys, I64 z) (hs : I64 s) : ∀ z ∈ (codeJoin xs ys s).getD [], I64 z := by
  unfold codeJoin
  by_cases h : (s = 8 ∨ s = 9) ∧ codeValid xs = true ∧ codeValid ys = true ∧ xs.length + ys.length + 1 ≤ 40
  · rw [if_pos h]
    intro z hz
    simp only [Option.getD_some, List.mem_append, List.mem_singleton] at hz
    rcases hz with (hz | hz) | rfl
    · exact hx z hz
    · exact hy z hz
    · exact hs
  · rw [if_neg h]; intro z hz; simp at hz

theorem marks_I64 {k n : Nat} (h : k + n ≤ 100000000) : ∀ z ∈ marks k n, I64 z := by
  intro z hz
  have := marks_mem hz
  unfold I64; omega

set_option maxHeartbeats 1000000 in
theorem FnExactCodeJoin_walk (xs ys : List Int) (s : Int) (va vb : Value) (w : World) (hx : IntS w va xs) (hy : IntS w vb ys) (hs : I64 s) :
    Calls Try.prog 6 #[va, vb, .int .i64 s] w fun e w' => e = .returned (.bool true) ∧ Below w.heap.size w w' := by
  obtain ⟨ao, cap, hv⟩ : ∃ ao cap, va = .slice ao xs.length cap := by obtain ⟨_, ao, cap, h1, _⟩ := hx; exact ⟨ao, cap, h1⟩
  obtain ⟨bo, bap, hv'⟩ : ∃ ao cap, vb = .slice ao ys.length cap := by obtain ⟨_, ao, cap, h1, _⟩ := hy; exact ⟨ao, cap, h1⟩
  subst hv; subst hv'
  by_cases hbig : 1048576 < xs.length
  · go_enter Try.func6, Try.ntmps6
    go_wp2_with fail
    go_ret
    exact ⟨rfl, Below.refl _ _⟩
  by_cases hbig2 : 1048576 < ys.length
  · go_enter Try.func6, Try.ntmps6
    go_wp2_with fail
    go_ret
    exact ⟨rfl, Below.refl _ _⟩
  · have HI := hidI (codeJoin_I64 hx.1 hy.1 hs)
    have hsm := codeJoin_small xs ys s
    have IX : ∀ (w' : World), Below w.heap.size w w' → IntS w' _ xs := fun _ h => hx.below h
    have IY : ∀ (w' : World), Below w.heap.size w w' → IntS w' _ ys := fun _ h => hy.below h
    have HIX := hidI IX; have HIY := hidI IY; clear IX IY
    go_enter Try.func6, Try.ntmps6
    go_wp2_with fail
    refine (toIntS_any xs _ _ hx (by omega)).mono ?_; rintro e w1 ⟨rfl, h1, -, b1⟩
    go_wp2_with fail
    refine (toIntS_any ys _ _ (HIY.out _ b1) (by omega)).mono ?_; rintro e w2 ⟨rfl, h2, -, b2⟩
    have B2 := bthen b1 b2
    go_wp2_with fail
    refine (spec_CodeJoin xs ys s _ _ _ (h1.below b2) h2 (by omega) (by omega) hs).mono ?_; rintro e w3 ⟨vw, rfl, o3, b3⟩
    have B3 := bthen B2 b3
    have HO3 := hidI o3; clear o3
    generalize hob : (codeJoin xs ys s).isSome = ob
    have HOB := hidI hob; clear hob
    go_wp2_with fail
    refine (toIntS_any xs _ _ (HIX.out _ B3) (by omega)).mono ?_; rintro e w4 ⟨rfl, h4, r4, b4⟩
    have B4 := bthen B3 b4
    have HR4 := hidI r4; clear r4
    go_wp2_with fail
    refine (toIntS_any ys _ _ (HIY.out _ B4) (by omega)).mono ?_; rintro e w5 ⟨rfl, h5, r5, b5⟩
    have B5 := bthen B4 b5
    have HR5 := hidI r5; clear r5
    go_wp2_with fail
    refine (impl_CodeJoin xs ys s _ _ _ (h4.below b5) h5 (by omega) (by omega)).mono ?_; rintro e w6 ⟨vg, rfl, o6, b6⟩
    have B6 := bthen B5 b6
    have HO6 := hidI o6; clear o6
    rw [HOB.out]
    obtain ⟨-, i3⟩ := IntS.ofOwn HO3.out HI.out
    obtain ⟨-, i6⟩ := IntS.ofOwn HO6.out HI.out
    go_wp2_with fail
    refine (eqIntS_any _ _ _ _ _ i6 (i3.below (bthen b4 (bthen b5 b6)))).mono ?_; rintro e w7 ⟨rfl, n7, rfl⟩
    have b7 := bdraw w6 n7
    have B7 := bthen B6 b7
    simp only [decide_true]
    go_wp2_with fail
    refine (toIntS_any xs _ _ (HIX.out _ B7) (by omega)).mono ?_; rintro e w8 ⟨rfl, h8, -, b8⟩
    have B8 := bthen B7 b8
    go_wp2_with fail
    refine (eqIntS_any xs xs _ _ _ (h4.below (bthen b5 (bthen b6 (bthen b7 b8)))) h8).mono ?_; rintro e w9 ⟨rfl, n9, rfl⟩
    have b9 := bdraw w8 n9
    have B9 := bthen B8 b9
    simp only [decide_true]
    go_wp2_with fail
    refine (toIntS_any ys _ _ (HIY.out _ B9) (by omega)).mono ?_; rintro e w10 ⟨rfl, h10, -, b10⟩
    have B10 := bthen B9 b10
    go_wp2_with fail
    refine (eqIntS_any ys ys _ _ _ (h5.below (bthen b6 (bthen b7 (bthen b8 (bthen b9 b10))))) h10).mono ?_; rintro e w11 ⟨rfl, n11, rfl⟩
    have b11 := bdraw w10 n11
    have B11 := bthen B10 b11
    simp only [decide_true]
    -- the marks in the two arguments' copies
    have b45 := bthen b5 (bthen b6 (bthen b7 (bthen b8 (bthen b9 (bthen b10 b11)))))
    have b56 := bthen b6 (bthen b7 (bthen b8 (bthen b9 (bthen b10 b11))))
    have b67 := bthen b7 (bthen b8 (bthen b9 (bthen b10 b11)))
    have o4 := own_below (own_of_row (xs := xs.map (Value.int .i64)) HR4.out (by simp) (by intro j hj; simp [List.getD, hj]) (by unfold maxLen; omega)) b45
    have o5 := own_below (own_of_row (xs := ys.map (Value.int .i64)) HR5.out (by simp) (by intro j hj; simp [List.getD, hj]) (by unfold maxLen; omega)) b56
    have o3' := own_below HO3.out (bthen b4 b45)
    have o6' := own_below HO6.out b67
    have hO4 := hidI o4; have hO5 := hidI o5; have hO3 := hidI o3'; have hO6 := hidI o6'
    clear o4 o5 o3' o6' h4 h5 h8 h10 i3 i6 h1 h2
    have s3 := b3.size; have s4 := b4.size; have s5 := b5.size; have s6 := b6.size
    have L3 : ∀ k, vw.ownBlock = some k → k < w3.heap.size := fun k hk => (HO3.out.lt k hk).2
    have L6 : ∀ k, vg.ownBlock = some k → w5.heap.size ≤ k := fun k hk => (HO6.out.lt k hk).1
    have z4 : w3.heap.size < w4.heap.size := HR4.out.lt
    have z5 : w4.heap.size < w5.heap.size := HR5.out.lt
    have hW := hidI L3; have hG := hidI L6; clear L3 L6
    go_wp2_with fail
    refine (markIntS_q xs.length _ _ _ 1 _ _ rfl hO4.out (by omega) (by omega)).mono ?_; rintro e w12 ⟨rfl, -, g12⟩
    have g12' : (w10.drewN n11).grownBy w12 (some w3.heap.size) := g12
    have B12 := B11.grown g12' (by exact B11.size) (by intro k hk; cases hk; exact B3.size)
    have P5 := hidI (own_grown hO5.out g12' (fun k hk => by simp [Value.ownBlock] at hk; omega))
    have P3 := hidI (own_grown hO3.out g12' (fun k hk => by have := hW.out k hk; omega))
    have P6 := hidI (own_grown hO6.out g12' (fun k hk => by have := hG.out k hk; omega))
    clear g12 g12'
    go_wp2_with fail
    refine (markIntS_q ys.length _ _ _ (1 + xs.length) _ _ (by omega) P5.out (by omega) (by omega)).mono ?_; rintro e w13 ⟨rfl, -, g13⟩
    have g13' : w12.grownBy w13 (some w4.heap.size) := g13
    have B13 := B12.grown g13' (by exact B12.size) (by intro k hk; cases hk; exact B4.size)
    have Q3 := hidI (own_grown P3.out g13' (fun k hk => by have := hW.out k hk; omega))
    have Q6 := hidI (own_grown P6.out g13' (fun k hk => by have := hG.out k hk; omega))
    clear g13 g13'
    obtain ⟨-, j3⟩ := IntS.ofOwn Q3.out HI.out
    obtain ⟨-, j6⟩ := IntS.ofOwn Q6.out HI.out
    go_wp2_with fail
    refine (eqIntS_any _ _ _ _ _ j6 j3).mono ?_; rintro e w14 ⟨rfl, n14, rfl⟩
    have b14 := bdraw w13 n14
    have B14 := bthen B13 b14
    have R3 := hidI (own_below Q3.out b14)
    have R6 := hidI (own_below Q6.out b14)
    simp only [decide_true]
    go_wp2_with fail
    refine (markIntS_q _ _ _ _ 1 _ _ rfl R6.out (by omega) (by omega)).mono ?_; rintro e w15 ⟨rfl, o15, g15⟩
    have hgb : ∀ k, vg.ownBlock = some k → w.heap.size ≤ k := fun k hk => Nat.le_trans B5.size (hG.out k hk)
    have B15 := B14.grown g15 B14.size hgb
    have T3 := hidI (R3.out.kept g15 (by
      cases e : vw.ownBlock with
      | none => exact .inl rfl
      | some k => exact .inr (fun h' => by have h1 := hW.out k e; have h2 := hG.out k h'.symm; omega)))
    obtain ⟨hml, j15⟩ := IntS.ofOwn o15 (marks_I64 (by omega))
    rw [marks_length] at hml
    have hO15 := hidI o15; clear o15 g15 hml
    go_wp2_with fail
    refine (heldIntS_q _ _ 1 _ _ rfl j15 (by omega) (by omega)).mono ?_; rintro e w' ⟨rfl, rfl⟩
    go_wp2_with fail
    refine (toIntS_any xs _ _ (HIX.out _ B15) (by omega)).mono ?_; rintro e w16 ⟨rfl, h16, -, b16⟩
    have B16 := bthen B15 b16
    go_wp2_with fail
    refine (toIntS_any ys _ _ (HIY.out _ B16) (by omega)).mono ?_; rintro e w17 ⟨rfl, h17, -, b17⟩
    have B17 := bthen B16 b17
    go_wp2_with fail
    refine (impl_CodeJoin xs ys s _ _ _ (h16.below b17) h17 (by omega) (by omega)).mono ?_; rintro e w18 ⟨vh, rfl, o18, b18⟩
    have B18 := bthen B17 b18
    have HO18 := hidI o18; clear o18
    rw [HOB.out]
    obtain ⟨-, i18⟩ := IntS.ofOwn HO18.out HI.out
    obtain ⟨-, i3⟩ := IntS.ofOwn (own_below T3.out (bthen b16 (bthen b17 b18))) HI.out
    go_wp2_with fail
    refine (eqIntS_any _ _ _ _ _ i18 i3).mono ?_; rintro e w19 ⟨rfl, n19, rfl⟩
    have b19 := bdraw w18 n19
    have B19 := bthen B18 b19
    simp only [decide_true]
    go_wp2_with fail
    refine (heldIntS_q _ _ 1 _ _ rfl (j15.below (bthen b16 (bthen b17 (bthen b18 b19)))) (by omega) (by omega)).mono ?_; rintro e w' ⟨rfl, rfl⟩
    go_wp2_with fail
    go_ret
    exact ⟨rfl, B19⟩

set_option maxRecDepth 100000 in
theorem FnExactCodeJoin_lifted (os : Os) (started : os.Started) (H : Type) (enc : TypeId × Value → H) :
    ReturnsInHanded {} Try.checked os 6 .any (Rows.fnExactCodeJoinSpec.pre6 enc Try.prog Try.f6 Rows.fnExactCodeJoinRow.domain false) (Rows.fnExactCodeJoinSpec.post enc Try.prog Try.f6 false true false false) := by
  refine returnsInHanded_of_change (C := Try.checked) own started (by kernel_rfl) Try.func6
    (ChangeSpec.witness6 (enc := enc) (C := Try.checked) false ⟨#[], #[.slice none 0 0, .slice none 0 0, .int .i64 0], []⟩ 8 (by kernel_rfl) (by kernel_rfl) (by kernel_rfl) (by kernel_rfl)) ?_
  intro W base args ds gs before hval0 hW hcnd _
  have hval : ∀ (j : Nat) t v, Try.f6.params[j]? = some t → args[j]? = some v → Value.okWide Try.prog W .any base t v := hval0
  have hW' := hW
  obtain ⟨p, q, hA0, hV, rfl, hfz, hnd⟩ := hW
  have hA : DataW.TrodAll enc Try.prog W 0 (fun _ => true) true Try.f6.params.toList args.toList ds p := hA0
  rw [Try.params6] at hA hval
  obtain ⟨rfl, rfl⟩ := trodVars_none hV
  clear hA0 hval0
  simp only [List.append_nil] at hW'
  obtain ⟨v0, v1, v2, d0, d1, d2, p0, p1, p2, rfl, rfl, rfl, h0, h1, h2⟩ := trodAll_three hA
  have l0 : ∀ x ∈ p0, x.block < W.heap.size := fun x hx => hW'.lt x (by simp [hx])
  have l1 : ∀ x ∈ p1, x.block < W.heap.size := fun x hx => hW'.lt x (by simp [hx])
  have l2 : ∀ x ∈ p2, x.block < W.heap.size := fun x hx => hW'.lt x (by simp [hx])
  have k0 : ∀ (W' : World), Below W.heap.size W W' → DataW.Trod enc Try.prog W' 0 (fun b => decide (b < W.heap.size)) true 22 v0 d0 p0 := fun W' hn => Below.trod laidOut (by kernel_rfl) (of_decide_eq_true (by kernel_rfl)) h0 hn l0
  have k1 : ∀ (W' : World), Below W.heap.size W W' → DataW.Trod enc Try.prog W' 0 (fun b => decide (b < W.heap.size)) true 22 v1 d1 p1 := fun W' hn => Below.trod laidOut (by kernel_rfl) (of_decide_eq_true (by kernel_rfl)) h1 hn l1
  have k2 : ∀ (W' : World), Below W.heap.size W W' → DataW.Trod enc Try.prog W' 0 (fun b => decide (b < W.heap.size)) true 3 v2 d2 p2 := fun W' hn => Below.trod laidOut (by kernel_rfl) (of_decide_eq_true (by kernel_rfl)) h2 hn l2
  obtain ⟨xs, hx⟩ := open_IntS (hval 0 22 v0 rfl rfl) h0 l0
  obtain ⟨ys, hy⟩ := open_IntS (hval 1 22 v1 rfl rfl) h1 l1
  obtain ⟨s, rfl, hs⟩ := open_I64 (hval 2 3 v2 rfl rfl) h2
  refine (FnExactCodeJoin_walk xs ys s v0 v1 W hx hy hs).mono fun e W' ⟨he, hb⟩ => ?_
  subst he
  exact ⟨_, rfl, _, _, _, [], _, [], hW', shut_true, trodAll_mk3 (k0 _ hb) (k1 _ hb) (k2 _ hb), rfl, hb.frame _, fun h => by cases h⟩

theorem FnExactCodeJoin_holds : Rows.FnExactCodeJoinSaid :=
  OpenClaim.holds_of_wide 6 Try.f6 rfl rfl rfl rfl rfl rfl rfl ⟨rfl, rfl, rfl, rfl, rfl⟩ rfl rfl rfl rfl rfl (by kernel_rfl) Try.func6 (by kernel_rfl)
    (of_decide_eq_true (by kernel_rfl)) (by unfold Func.isWrapper; first | (rw [if_pos (by decide +kernel)]; kernel_rfl) | (rw [if_neg (by decide +kernel)]; exact ⟨rfl, rfl⟩))
    (fun os started H enc _ => FnExactCodeJoin_lifted os started H enc)
end Go.Proofs.Ytfofjghcofjojaa
