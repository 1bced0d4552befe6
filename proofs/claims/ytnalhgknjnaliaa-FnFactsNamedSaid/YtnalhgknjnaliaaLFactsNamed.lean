/- FnFactsNamed: for every input the law returns true, and its argument reads as before. -/
import Derived.Test.YtnalhgknjnaliaaOpenB
import Derived.Test.YtnalhgknjnaliaaDrawC
import Derived.Test.YtnalhgknjnaliaaAlive
import Derived.Test.YtnalhgknjnaliaaMattP
import Derived.Test.YtnalhgknjnaliaaNamed
import Derived.Test.YtnalhgknjnaliaaLawH
import Derived.Test.YtnalhgknjnaliaaTreeD
import Derived.Deep.DeepFit
import Derived.Outline
namespace Go.Proofs.Ytnalhgknjnaliaa
open Go.ChangeShapes Go.WideShapes Go.ChangeAt Go.RowKit

theorem named_bit (i : Nat) : ∀ (l : List Int) (S : Nat), (∀ z ∈ l, 0 ≤ z) → ((namedGo l S).testBit i = true ↔ S.testBit i = true ∨ (i < 5 ∧ (i : Int) ∈ l))
  | [], S, _ => by simp [namedGo]
  | s :: l, S, h => by
    have h0 : 0 ≤ s := h s (by simp)
    rw [namedGo, named_bit i l _ (fun z hz => h z (by simp [hz]))]
    by_cases h5 : s < 5
    · rw [if_pos h5, Nat.testBit_or, Nat.testBit_two_pow]
      by_cases e : s.toNat = i
      · have e2 : (i : Int) = s := by omega
        have e3 : i < 5 := by omega
        simp [e, e2, e3]
      · have e2 : ¬ (i : Int) = s := by omega
        simp [e, e2]
    · rw [if_neg h5]
      have e2 : i < 5 → ¬ (i : Int) = s := fun _ => by omega
      constructor
      · rintro (h1 | ⟨h1, h2⟩)
        · exact .inl h1
        · exact .inr ⟨h1, by simp [h2]⟩
      · rintro (h1 | ⟨h1, h2⟩)
        · exact .inl h1
        · refine .inr ⟨h1, ?_⟩
          rcases List.mem_cons.1 h2 with h3 | h3
          · exact absurd h3 (e2 h1)
          · exact h3

theorem named_lt : ∀ (l : List Int) (S : Nat), S < 32 → (∀ z ∈ l, 0 ≤ z) → namedGo l S < 32
  | [], S, h, _ => h
  | s :: l, S, h, hz => by
    rw [namedGo]
    refine named_lt l _ ?_ (fun z hz' => hz z (by simp [hz']))
    have h0 : 0 ≤ s := hz s (by simp)
    by_cases h5 : s < 5
    · rw [if_pos h5]; exact or_lt32 h (pow_lt32 (by omega))
    · rw [if_neg h5]; exact h

theorem and_sub {a b : Nat} (h : ∀ i, b.testBit i = true → a.testBit i = true) : a &&& b = b := by
  refine Nat.eq_of_testBit_eq fun i => ?_
  rw [Nat.testBit_and]
  cases e : b.testBit i with
  | false => simp
  | true => rw [h i e]; rfl

/-- Only what is named tells. -/
theorem ev_named (S S' : Nat) : ∀ (t : Cond), t.Ok → (∀ z ∈ t.steps, z < 5 → S.testBit z.toNat = S'.testBit z.toNat) → ev S t = ev S' t
  | .one s, h, hz => by
    have h1 : 0 ≤ s ∧ s ≤ 6 := h
    unfold ev
    by_cases c5 : s = 5
    · rw [if_pos c5, if_pos c5]
    · by_cases c6 : s = 6
      · rw [if_neg c5, if_neg c5, if_pos c6, if_pos c6]
      · rw [if_neg c5, if_neg c5, if_neg c6, if_neg c6]
        exact hz s (by simp [Cond.steps]) (by omega)
  | .neg c, h, hz => by
    show (!ev S c) = !ev S' c
    rw [ev_named S S' c h (fun z h1 h2 => hz z (by simp [Cond.steps, h1]) h2)]
  | .two s a b, h, hz => by
    show (if s = 8 then ev S a && ev S b else ev S a || ev S b) = (if s = 8 then ev S' a && ev S' b else ev S' a || ev S' b)
    rw [ev_named S S' a h.2.1 (fun z h1 h2 => hz z (by simp [Cond.steps, h1]) h2), ev_named S S' b h.2.2 (fun z h1 h2 => hz z (by simp [Cond.steps, h1]) h2)]

theorem matter_named {t : Cond} (h : t.Ok) (i : Nat) (hi : (mattTo t.steps 5).testBit i = true) : (namedGo t.steps 0).testBit i = true := by
  obtain ⟨h5, s, hs, hne⟩ := (mattTo_bit t.steps i 5).1 hi
  rw [named_bit i t.steps 0 (fun z hz => (steps_range t h z hz).1)]
  refine .inr ⟨h5, ?_⟩
  refine Classical.byContradiction fun hno => ?_
  rw [runAll_ev s t h, runAll_ev _ t h, ev_named s (s ^^^ 2 ^ i) t h ?_] at hne
  · simp at hne
  · intro z hz hz5
    have h0 := (steps_range t h z hz).1
    rw [Nat.testBit_xor, Nat.testBit_two_pow]
    have e : ¬ i = z.toNat := fun e => hno (by rw [e, Int.toNat_of_nonneg h0]; exact hz)
    simp [e]

theorem simple_named {t : Cond} (h : t.Ok) (i : Nat) (hi : (namedGo (smp t).steps 0).testBit i = true) : (namedGo t.steps 0).testBit i = true := by
  rw [named_bit i _ 0 (fun z hz => (steps_range _ (smp_Ok t h) z hz).1)] at hi
  rw [named_bit i _ 0 (fun z hz => (steps_range t h z hz).1)]
  rcases hi with hi | ⟨h5, h6⟩
  · simp at hi
  · exact .inr ⟨h5, smp_sub t h _ h6 (by omega)⟩

set_option maxHeartbeats 400000 in
theorem spec_DrawFactsNamed (n : Nat) (v : Value) (w : World) (h : BytS w w.heap.size v n) :
    Calls Try.prog 22 #[v] w fun e w' => ∃ g m cap zs, e = .returned (.slice (some ⟨g, 0, none⟩) m cap) ∧ m ≤ 60 ∧ zs.length = m ∧ IntS w' (.slice (some ⟨g, 0, none⟩) m cap) zs ∧ Below w.heap.size w w' := by
  go_enter Try.func22, Try.ntmps22
  go_wp2_with fail
  go_fit (spec_l20Open n v w h); rintro e w1 ⟨rfl, hr, b1⟩
  go_wp2_with fail
  go_fit (spec_l20Code w.heap.size 0 5 9 w1 hr (by omega) (by omega) (by omega) (by omega) (by omega)); rintro e w2 ⟨g, m, cap, rfl, hm, ho, -, hg⟩
  obtain ⟨zs, hz, hi⟩ := ho.ints
  go_wp2_with fail
  go_ret
  exact ⟨g, m, cap, zs, rfl, hm, hz, hi, b1.grown hg b1.size (fun k hk => by cases hk; exact Nat.le_refl _)⟩

set_option maxRecDepth 100000 in
set_option maxHeartbeats 2000000 in
theorem FnFactsNamed_walk (n : Nat) (v : Value) (w : World) (h : BytS w w.heap.size v n) :
    Calls Try.prog 6 #[v] w fun e w' => e = .returned (.bool true) ∧ Below w.heap.size w w' := by
  obtain ⟨bao, bcap, hv⟩ : ∃ ao cap, v = .slice ao n cap := by obtain ⟨ao, cap, h1, _⟩ := h; exact ⟨ao, cap, h1⟩
  subst hv
  have HV := hidI h; clear h
  by_cases hbig : 1048576 < n
  · go_enter Try.func6, Try.ntmps6
    go_wp2_with fail
    go_ret
    exact ⟨rfl, Below.refl _ _⟩
  have hbig2 : (n : Int) ≤ 1048576 := by omega
  go_enter Try.func6, Try.ntmps6
  go_wp2_with fail
  go_fit (spec_DrawFactsNamed n _ w HV.out); rintro e w1 ⟨g, m, cap, xs, rfl, hm, hz, hx, b1⟩
  have HX := hidI hx; have B1 := hidI b1; have HXL := hidI (show xs.length ≤ 60 by omega)
  clear hx b1 hz hm
  go_wp2_with fail
  go_fit (impl_FactsNamed xs _ w1 HX.out); rintro e w' ⟨rfl, rfl⟩
  generalize hq : factsNamed xs = q
  have HQ := hidI hq
  clear hq
  go_wp2_with fail
  go_fit (spec_FactsNamed xs _ w1 HX.out (by have := HXL.out; omega)); rintro e w' ⟨rfl, rfl⟩
  rw [HQ.out]
  cases hv : codeValid xs
  · have hq : q = -1 := by rw [← HQ.out]; unfold factsNamed; rw [hv]; rfl
    subst hq
    clear hv HQ
    go_wp2_with fail
    go_fit (laws_alive _); rintro e w9 ⟨rfl, b9⟩
    go_wp2_with fail
    go_ret
    exact ⟨rfl, bthen B1.out b9⟩
  · obtain ⟨t, hk, rfl, h40, h1, -, -⟩ := valid_tree hv
    have hok := smp_Ok t hk
    have hle := smp_len t
    have hN := named_lt t.steps 0 (by omega) (fun z hz => (steps_range t hk z hz).1)
    have hL := named_lt (smp t).steps 0 (by omega) (fun z hz => (steps_range _ hok z hz).1)
    have hM := mattTo_lt t.steps 5 (Nat.le_refl _)
    have HAL := hidI (and_sub (fun i hi => simple_named hk i hi))
    have HAM := hidI (and_sub (fun i hi => matter_named hk i hi))
    have e1 := codeSimple_tree hv hk
    have HFM : Hid (factsMatter t.steps = (mattTo t.steps 5 : Nat)) := hidI (by unfold factsMatter; rw [hv]; rfl)
    have HFL : Hid (factsNamed (smp t).steps = (namedGo (smp t).steps 0 : Nat)) := hidI (by unfold factsNamed; rw [valid_cond hok (by omega)]; rfl)
    have hq : q = (namedGo t.steps 0 : Nat) := by rw [← HQ.out]; unfold factsNamed; rw [hv]; rfl
    subst hq
    have HI2 := hidI (steps_I64 hok)
    have HE := hidI e1
    clear hv hk hok hle h40 h1 e1 HQ
    generalize namedGo t.steps 0 = P at *
    generalize (smp t).steps = ys at *
    generalize namedGo ys 0 = L at *
    generalize mattTo t.steps 5 = M at *
    have hp0 : (0 : Int) ≤ (P : Int) := by omega
    have hp1 : (P : Int) < 32 := by omega
    have HN := hidI hN; have HL := hidI hL; have HM := hidI hM
    clear hN hL hM
    go_wp2_with fail
    go_fit (impl_CodeSimple t.steps _ w1 HX.out); rintro e w2 ⟨vg, rfl, o2, b2⟩
    rw [HE.out] at o2
    have HX := hidI (HX.out.below b2); have B1 := hidI (bthen B1.out b2); have IG := hidI (IntS.ofOwn o2 HI2.out).2; clear o2 b2
    go_wp2_with fail
    go_fit (impl_FactsNamed ys _ w2 IG.out); rintro e w' ⟨rfl, rfl⟩
    rw [HFL.out]
    go_wp2_with fail
    go_fit (impl_FactsMatter t.steps _ w2 HX.out); rintro e w3 ⟨rfl, b3⟩
    rw [HFM.out]
    have B1 := hidI (bthen B1.out b3); clear b3
    go_wp2_with fail
    go_fit (laws_both P L w3 (by have := HN.out; omega) (by have := HL.out; omega)); rintro e w' ⟨rfl, rfl⟩
    rw [HAL.out]
    go_wp2_with fail
    go_fit (laws_both P M w3 (by have := HN.out; omega) (by have := HM.out; omega)); rintro e w' ⟨rfl, rfl⟩
    rw [HAM.out]
    go_wp2_with fail
    go_ret
    exact ⟨rfl, B1.out⟩

set_option maxRecDepth 100000 in
theorem FnFactsNamed_lifted (os : Os) (started : os.Started) (H : Type) (enc : TypeId × Value → H) :
    ReturnsInHanded {} Try.checked os 6 .any (Rows.fnFactsNamedSpec.pre6 enc Try.prog Try.f6 Rows.fnFactsNamedRow.domain false) (Rows.fnFactsNamedSpec.post enc Try.prog Try.f6 false true false false) := by
  refine returnsInHanded_of_change (C := Try.checked) own started (by kernel_rfl) Try.func6
    (ChangeSpec.witness6 (enc := enc) (C := Try.checked) false ⟨#[], #[.slice none 0 0], []⟩ 8 (by kernel_rfl) (by kernel_rfl) (by kernel_rfl) (by kernel_rfl)) ?_
  intro W base args ds gs before hval0 hW hcnd _
  have hval : ∀ (j : Nat) t v, Try.f6.params[j]? = some t → args[j]? = some v → Value.okWide Try.prog W .any base t v := hval0
  have hW' := hW
  obtain ⟨p, q, hA0, hV, rfl, hfz, hnd⟩ := hW
  have hA : DataW.TrodAll enc Try.prog W 0 (fun _ => true) true Try.f6.params.toList args.toList ds p := hA0
  rw [Try.params6] at hA hval
  obtain ⟨rfl, rfl⟩ := trodVars_none hV
  clear hA0 hval0
  simp only [List.append_nil] at hW'
  obtain ⟨v0, d0, rfl, rfl, h0⟩ := trodAll_one hA
  have l0 : ∀ x ∈ p, x.block < W.heap.size := fun x hx => by simpa using hW'.lt x hx
  have k0 : ∀ (W' : World), Below W.heap.size W W' → DataW.Trod enc Try.prog W' 0 (fun b => decide (b < W.heap.size)) true 22 v0 d0 p := fun W' hn => Below.trod laidOut (by kernel_rfl) (of_decide_eq_true (by kernel_rfl)) h0 hn l0
  obtain ⟨n, hn⟩ := open_BytS (hval 0 22 v0 rfl rfl) h0 l0
  refine (FnFactsNamed_walk n v0 W hn).mono fun e W' ⟨he, hb⟩ => ?_
  subst he
  exact ⟨_, rfl, _, _, _, [], _, [], hW', shut_true, trodAll_mk1 (k0 _ hb), rfl, hb.frame _, fun h => by cases h⟩

theorem FnFactsNamed_holds : Rows.FnFactsNamedSaid :=
  OpenClaim.holds_of_wide 6 Try.f6 rfl rfl rfl rfl rfl rfl rfl ⟨rfl, rfl, rfl, rfl, rfl⟩ rfl rfl rfl rfl rfl (by kernel_rfl) Try.func6 (by kernel_rfl)
    (of_decide_eq_true (by kernel_rfl)) (by unfold Func.isWrapper; first | (rw [if_pos (by decide +kernel)]; kernel_rfl) | (rw [if_neg (by decide +kernel)]; exact ⟨rfl, rfl⟩))
    (fun os started H enc _ => FnFactsNamed_lifted os started H enc)
end Go.Proofs.Ytnalhgknjnaliaa
