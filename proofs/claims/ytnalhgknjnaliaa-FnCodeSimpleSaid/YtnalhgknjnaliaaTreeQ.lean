/- impl.simpler makes a tree simpler. -/
import Derived.Test.YtnalhgknjnaliaaTreeF
import Derived.Test.YtnalhgknjnaliaaTreeS
import Derived.Test.YtnalhgknjnaliaaSameL
namespace Go.Proofs.Ytnalhgknjnaliaa
open Go.RowKit

set_option maxRecDepth 100000 in
set_option maxHeartbeats 4000000 in
theorem impl_simpler (c : Cond) : ∀ (w : World), c.Ok → c.steps.length ≤ 1000 → Calls Try.prog 49 #[c.val] w fun e w' => e = .returned (smp c).val ∧ Below w.heap.size w w' := by
  induction c with
  | one s =>
    intro w hk _
    have q1 := ta_single_turned; have q2 := ta_single_joined
    clear hk
    show Calls Try.prog 49 #[.iface 76 (.agg #[.int .i64 s])] w _
    go_enter Try.func49, Try.ntmps49
    go_wp2_with fail
    go_ret
    exact ⟨rfl, Below.refl _ _⟩
  | neg c ih =>
    intro w hk hlen
    have q1 := ta_turned_turned; have q2 := ta_single_turned; have q3 := ta_single_single; have q4 := ta_joined_turned; have q5 := ta_joined_single
    have hl2 : c.steps.length ≤ 1000 := by simp [Cond.steps] at hlen; omega
    have IH := hidI (fun w => ih w hk hl2)
    have hd := smp_Ok c hk
    show Calls Try.prog 49 #[.iface 79 (.agg #[c.val])] w fun e w' => e = .returned (smpNeg (smp c)).val ∧ Below w.heap.size w w'
    obtain ⟨T, A, hA⟩ := c.shape
    rw [hA] at IH ⊢
    generalize smp c = d at *
    have B0 := hidI (fun o => (Below.refl w.heap.size w).alloc (Nat.le_refl _) o)
    clear ih hk hA hlen hl2
    match d, hd with
    | .neg p, _ =>
      rw [show (Cond.neg p).val = .iface 79 (.agg #[p.val]) from rfl] at IH
      rw [show smpNeg (.neg p) = p from rfl]
      obtain ⟨T2, A2, hA2⟩ := p.shape
      rw [hA2] at IH ⊢
      clear hA2 hd
      go_enter Try.func49, Try.ntmps49
      go_wp2_with fail
      refine (IH.out _).mono ?_; rintro e w1 ⟨rfl, b1⟩
      have HB := hidI ((B0.out _).trans (b1.mono (by simp))); clear b1
      go_wp2_with fail
      go_ret
      exact ⟨rfl, HB.out.alloc HB.out.size _⟩
    | .one s, hd =>
      rw [show (Cond.one s).val = .iface 76 (.agg #[.int .i64 s]) from rfl] at IH
      have hd1 : 0 ≤ s ∧ s ≤ 6 := hd
      obtain ⟨h0, h6⟩ := hd1
      clear hd
      by_cases h5 : 5 ≤ s
      · have HV := hidI (show (smpNeg (.one s)).val = .iface 76 (.agg #[.int .i64 (11 - s)]) by rw [smpNeg_one, if_pos h5]; rfl)
        go_enter Try.func49, Try.ntmps49
        go_wp2_with fail
        refine (IH.out _).mono ?_; rintro e w1 ⟨rfl, b1⟩
        have HB := hidI ((B0.out _).trans (b1.mono (by simp))); clear b1
        go_wp2_with fail
        go_ret
        exact ⟨by rw [HV.out]; rfl, HB.out.alloc HB.out.size _⟩
      · have HV := hidI (show (smpNeg (.one s)).val = .iface 79 (.agg #[.iface 76 (.agg #[.int .i64 s])]) by rw [smpNeg_one, if_neg h5]; rfl)
        have h5' : s < 5 := by omega
        clear h5
        go_enter Try.func49, Try.ntmps49
        go_wp2_with fail
        refine (IH.out _).mono ?_; rintro e w1 ⟨rfl, b1⟩
        have HB := hidI ((B0.out _).trans (b1.mono (by simp))); clear b1
        go_wp2_with fail
        go_ret
        exact ⟨by rw [HV.out]; rfl, HB.out.alloc HB.out.size _⟩
    | .two s a b, _ =>
      have HV := hidI (show (smpNeg (.two s a b)).val = .iface 79 (.agg #[(Cond.two s a b).val]) from rfl)
      rw [show (Cond.two s a b).val = .iface 83 (.agg #[.int .i64 s, a.val, b.val]) from rfl] at IH HV
      obtain ⟨T2, A2, hA2⟩ := a.shape
      obtain ⟨T3, A3, hA3⟩ := b.shape
      rw [hA2, hA3] at IH HV
      clear hA2 hA3 hd
      go_enter Try.func49, Try.ntmps49
      go_wp2_with fail
      refine (IH.out _).mono ?_; rintro e w1 ⟨rfl, b1⟩
      have HB := hidI ((B0.out _).trans (b1.mono (by simp))); clear b1
      go_wp2_with fail
      go_ret
      exact ⟨by rw [HV.out]; rfl, HB.out⟩
  | two s l h ihl ihh =>
    intro w hk hlen
    obtain ⟨k1, k2, k3⟩ := hk
    have q1 := ta_joined_turned; have q2 := ta_joined_joined
    have hN : (Cond.two s l h).steps.length = l.steps.length + h.steps.length + 1 := by simp [Cond.steps]; omega
    have IHL := hidI (fun w => ihl w k2 (by omega))
    have IHH := hidI (fun w => ihh w k3 (by omega))
    have hka := smp_Ok l k2
    have hkb := smp_Ok h k3
    have hla := smp_len l
    have hlb := smp_len h
    show Calls Try.prog 49 #[.iface 83 (.agg #[.int .i64 s, l.val, h.val])] w fun e w' => e = .returned (smpTwo s (smp l) (smp h)).val ∧ Below w.heap.size w w'
    obtain ⟨T, A, hA⟩ := l.shape
    obtain ⟨T2, A2, hA2⟩ := h.shape
    rw [hA] at IHL ⊢
    rw [hA2] at IHH ⊢
    generalize smp l = a at *
    generalize smp h = b at *
    have hl3 : a.steps.length ≤ 100000 := by omega
    have hl4 : b.steps.length ≤ 100000 := by omega
    have HL3 := hidI hl3; have HL4 := hidI hl4
    have HKA := hidI hka; have HKB := hidI hkb
    have HMA := fun n w => method_steps Try.underlying56 n a w
    have HCA := fun x w => call_steps a x w
    have HSA := hidI (steps_any a)
    have HMB := fun n w => method_steps Try.underlying56 n b w
    have HCB := fun x w => call_steps b x w
    have HSB := hidI (steps_any b)
    have LA := hidI (impl_lastStep a)
    have LB := hidI (impl_lastStep b)
    have VA : Hid (a.val = .iface a.ty a.arg) := hidI a.val_is
    have VB : Hid (b.val = .iface b.ty b.arg) := hidI b.val_is
    rw [a.val_is] at IHL LA
    rw [b.val_is] at IHH LB
    generalize a.ty = Ta at HMA LA VA IHL
    generalize a.arg = Aa at HMA LA VA IHL HSA
    generalize a.fn = Fa at HMA HCA HSA
    generalize b.ty = Tb at HMB LB VB IHH
    generalize b.arg = Ab at HMB LB VB IHH HSB
    generalize b.fn = Fb at HMB HCB HSB
    clear ihl ihh k2 k3 hA hA2 hN hlen hla hlb hl3 hl4 hka hkb
    go_enter Try.func49, Try.ntmps49
    go_wp2_with fail
    have c0 : (w.alloc (.cells #[.int .i64 s, .iface T A, .iface T2 A2] 83)).cell? ⟨w.heap.size, 0, none⟩ = some (.int .i64 s) := cell_at rfl rfl
    have c1 : (w.alloc (.cells #[.int .i64 s, .iface T A, .iface T2 A2] 83)).cell? ⟨w.heap.size, 1, none⟩ = some (.iface T A) := cell_at rfl rfl
    have c2 : (w.alloc (.cells #[.int .i64 s, .iface T A, .iface T2 A2] 83)).cell? ⟨w.heap.size, 2, none⟩ = some (.iface T2 A2) := cell_at rfl rfl
    have B0 : Below w.heap.size w (w.alloc (.cells #[.int .i64 s, .iface T A, .iface T2 A2] 83)) := (Below.refl _ _).alloc (Nat.le_refl _) _
    have hs0 : w.heap.size < (w.alloc (.cells #[.int .i64 s, .iface T A, .iface T2 A2] 83)).heap.size := by simp
    generalize w.alloc (.cells #[.int .i64 s, .iface T A, .iface T2 A2] 83) = W0 at c0 c1 c2 B0 hs0 ⊢
    have HB0 := hidI B0; have HS0 := hidI hs0; clear B0 hs0
    go_region_held3 (fun W => W.cell? ⟨w.heap.size, 0, none⟩ = some (.int .i64 s) ∧ W.cell? ⟨w.heap.size, 1, none⟩ = some (.iface T A) ∧ W.cell? ⟨w.heap.size, 2, none⟩ = some (.iface T2 A2)) (first | exact ⟨c0, c1, c2⟩ | (refine ⟨?_, ?_, ?_⟩ <;> assumption)) (first | (go_at_call_of 49 A; refine (IHL.out _).mono ?_; rintro e w5 ⟨rfl, b5⟩; have d0 := (b5.cell (p := ⟨w.heap.size, 0, none⟩) HS0.out).trans c0; have d1 := (b5.cell (p := ⟨w.heap.size, 1, none⟩) HS0.out).trans c1; have d2 := (b5.cell (p := ⟨w.heap.size, 2, none⟩) HS0.out).trans c2; have q5 := Nat.lt_of_lt_of_le HS0.out b5.size; have B5 := hidI (HB0.out.drew.trans (b5.mono (Nat.le_of_lt HS0.out))); clear b5) | (go_at_call_of 49 A2; refine (IHH.out _).mono ?_; rintro e w6 ⟨rfl, b6⟩; have e0 := (b6.cell (p := ⟨w.heap.size, 0, none⟩) q5).trans d0; have e1 := (b6.cell (p := ⟨w.heap.size, 1, none⟩) q5).trans d1; have e2 := (b6.cell (p := ⟨w.heap.size, 2, none⟩) q5).trans d2; have B6 := hidI (B5.out.trans (b6.mono (Nat.le_of_lt q5))); have q6 := Nat.lt_of_lt_of_le q5 b6.size; clear b6) | fail)
    clear c0 c1 c2
    have c0 := e0
    have q := hidI q6; have HB := B6
    clear q6 B6 d0 d1 d2 e0 e1 e2 q5 B5 HS0 HB0 IHL IHH q1 q2
    obtain ⟨pa, hpa⟩ : ∃ pa, a.last = pa := ⟨_, rfl⟩
    obtain ⟨pb, hpb⟩ : ∃ pb, b.last = pb := ⟨_, rfl⟩
    rw [hpa] at LA; rw [hpb] at LB
    have HPA := hidI hpa; have HPB := hidI hpb; clear hpa hpb
    rcases k1 with rfl | rfl
    ·
      have HT := hidI (smpTwo_cases 8 a b)
      by_cases p1 : pa = 6
      · have HV : Hid ((smpTwo 8 a b).val = .iface 76 (.agg #[.int .i64 6])) := hidI (by rw [HT.out.1 (.inl (HPA.out.trans p1))]; rfl)
        subst p1
        go_wp2_with fail
        refine (LA.out _).mono ?_; rintro e w1 ⟨rfl, b1⟩; have c0 := (b1.cell (p := ⟨w.heap.size, 0, none⟩) q.out).trans c0; have HB := hidI (HB.out.trans (b1.mono (Nat.le_of_lt q.out))); have q := hidI (Nat.lt_of_lt_of_le q.out b1.size); clear b1
        go_wp2_with fail
        go_ret
        exact ⟨by rw [HV.out]; rfl, HB.out⟩
      have n1 : (pa == 6) = false := by simp only [beq_eq_false_iff_ne, ne_eq]; exact p1
      by_cases p2 : pb = 6
      · have HV : Hid ((smpTwo 8 a b).val = .iface 76 (.agg #[.int .i64 6])) := hidI (by rw [HT.out.1 (.inr (HPB.out.trans p2))]; rfl)
        subst p2; clear p1
        go_wp2_with fail
        refine (LA.out _).mono ?_; rintro e w1 ⟨rfl, b1⟩; have c0 := (b1.cell (p := ⟨w.heap.size, 0, none⟩) q.out).trans c0; have HB := hidI (HB.out.trans (b1.mono (Nat.le_of_lt q.out))); have q := hidI (Nat.lt_of_lt_of_le q.out b1.size); clear b1
        go_wp2_with fail
        refine (LB.out _).mono ?_; rintro e w2 ⟨rfl, b2⟩; have c0 := (b2.cell (p := ⟨w.heap.size, 0, none⟩) q.out).trans c0; have HB := hidI (HB.out.trans (b2.mono (Nat.le_of_lt q.out))); have q := hidI (Nat.lt_of_lt_of_le q.out b2.size); clear b2
        go_wp2_with fail
        go_ret
        exact ⟨by rw [HV.out]; rfl, HB.out⟩
      have n2 : (pb == 6) = false := by simp only [beq_eq_false_iff_ne, ne_eq]; exact p2
      have P12 : Hid (¬ (a.last = strongOf 8 ∨ b.last = strongOf 8)) := hidI (by rw [HPA.out, HPB.out]; show ¬ (pa = 6 ∨ pb = 6); omega)
      clear p1 p2
      by_cases p3 : pa = 5
      · have HV : Hid ((smpTwo 8 a b).val = .iface Tb Ab) := hidI (by rw [HT.out.2.1 P12.out (HPA.out.trans p3)]; exact VB.out)
        subst p3
        go_wp2_with fail
        refine (LA.out _).mono ?_; rintro e w1 ⟨rfl, b1⟩; have c0 := (b1.cell (p := ⟨w.heap.size, 0, none⟩) q.out).trans c0; have HB := hidI (HB.out.trans (b1.mono (Nat.le_of_lt q.out))); have q := hidI (Nat.lt_of_lt_of_le q.out b1.size); clear b1
        go_wp2_with fail
        refine (LB.out _).mono ?_; rintro e w2 ⟨rfl, b2⟩; have c0 := (b2.cell (p := ⟨w.heap.size, 0, none⟩) q.out).trans c0; have HB := hidI (HB.out.trans (b2.mono (Nat.le_of_lt q.out))); have q := hidI (Nat.lt_of_lt_of_le q.out b2.size); clear b2
        go_wp2_with fail
        refine (LA.out _).mono ?_; rintro e w3 ⟨rfl, b3⟩; have c0 := (b3.cell (p := ⟨w.heap.size, 0, none⟩) q.out).trans c0; have HB := hidI (HB.out.trans (b3.mono (Nat.le_of_lt q.out))); have q := hidI (Nat.lt_of_lt_of_le q.out b3.size); clear b3
        go_wp2_with fail
        go_ret
        exact ⟨by rw [HV.out]; rfl, HB.out⟩
      have n3 : (pa == 5) = false := by simp only [beq_eq_false_iff_ne, ne_eq]; exact p3
      have P3 : Hid (¬ a.last = 11 - strongOf 8) := hidI (by rw [HPA.out]; exact p3)
      clear p3
      by_cases p4 : pb = 5
      · have HV : Hid ((smpTwo 8 a b).val = .iface Ta Aa) := hidI (by rw [HT.out.2.2.1 P12.out P3.out (HPB.out.trans p4)]; exact VA.out)
        subst p4
        go_wp2_with fail
        refine (LA.out _).mono ?_; rintro e w1 ⟨rfl, b1⟩; have c0 := (b1.cell (p := ⟨w.heap.size, 0, none⟩) q.out).trans c0; have HB := hidI (HB.out.trans (b1.mono (Nat.le_of_lt q.out))); have q := hidI (Nat.lt_of_lt_of_le q.out b1.size); clear b1
        go_wp2_with fail
        refine (LB.out _).mono ?_; rintro e w2 ⟨rfl, b2⟩; have c0 := (b2.cell (p := ⟨w.heap.size, 0, none⟩) q.out).trans c0; have HB := hidI (HB.out.trans (b2.mono (Nat.le_of_lt q.out))); have q := hidI (Nat.lt_of_lt_of_le q.out b2.size); clear b2
        go_wp2_with fail
        refine (LA.out _).mono ?_; rintro e w3 ⟨rfl, b3⟩; have c0 := (b3.cell (p := ⟨w.heap.size, 0, none⟩) q.out).trans c0; have HB := hidI (HB.out.trans (b3.mono (Nat.le_of_lt q.out))); have q := hidI (Nat.lt_of_lt_of_le q.out b3.size); clear b3
        go_wp2_with fail
        refine (LB.out _).mono ?_; rintro e w4 ⟨rfl, b4⟩; have c0 := (b4.cell (p := ⟨w.heap.size, 0, none⟩) q.out).trans c0; have HB := hidI (HB.out.trans (b4.mono (Nat.le_of_lt q.out))); have q := hidI (Nat.lt_of_lt_of_le q.out b4.size); clear b4
        go_wp2_with fail
        go_ret
        exact ⟨by rw [HV.out]; rfl, HB.out⟩
      have n4 : (pb == 5) = false := by simp only [beq_eq_false_iff_ne, ne_eq]; exact p4
      have P4 : Hid (¬ b.last = 11 - strongOf 8) := hidI (by rw [HPB.out]; exact p4)
      clear p4
      by_cases p5 : a.steps = b.steps
      · have HV : Hid ((smpTwo 8 a b).val = .iface Ta Aa) := hidI (by rw [HT.out.2.2.2.1 P12.out P3.out P4.out p5]; exact VA.out)
        have HD := hidI (decide_eq_true p5); clear p5
        go_wp2_with fail
        refine (LA.out _).mono ?_; rintro e w1 ⟨rfl, b1⟩; have c0 := (b1.cell (p := ⟨w.heap.size, 0, none⟩) q.out).trans c0; have HB := hidI (HB.out.trans (b1.mono (Nat.le_of_lt q.out))); have q := hidI (Nat.lt_of_lt_of_le q.out b1.size); clear b1
        go_wp2_with fail
        refine (LB.out _).mono ?_; rintro e w2 ⟨rfl, b2⟩; have c0 := (b2.cell (p := ⟨w.heap.size, 0, none⟩) q.out).trans c0; have HB := hidI (HB.out.trans (b2.mono (Nat.le_of_lt q.out))); have q := hidI (Nat.lt_of_lt_of_le q.out b2.size); clear b2
        go_wp2_with fail
        refine (LA.out _).mono ?_; rintro e w3 ⟨rfl, b3⟩; have c0 := (b3.cell (p := ⟨w.heap.size, 0, none⟩) q.out).trans c0; have HB := hidI (HB.out.trans (b3.mono (Nat.le_of_lt q.out))); have q := hidI (Nat.lt_of_lt_of_le q.out b3.size); clear b3
        go_wp2_with fail
        refine (LB.out _).mono ?_; rintro e w4 ⟨rfl, b4⟩; have c0 := (b4.cell (p := ⟨w.heap.size, 0, none⟩) q.out).trans c0; have HB := hidI (HB.out.trans (b4.mono (Nat.le_of_lt q.out))); have q := hidI (Nat.lt_of_lt_of_le q.out b4.size); clear b4
        go_wp2_with fail
        refine (HSA.out _ HL3.out HKA.out).mono ?_; rintro e w7 ⟨v7, rfl, o7, b7⟩; obtain ⟨g7, c7, rfl, -⟩ := own_addr o7 (steps_ne a); have O7 := hidI o7; have c0 := (b7.cell (p := ⟨w.heap.size, 0, none⟩) q.out).trans c0; have HB := hidI (HB.out.trans (b7.mono (Nat.le_of_lt q.out))); have q := hidI (Nat.lt_of_lt_of_le q.out b7.size); clear b7; clear o7
        go_wp2_with fail
        refine (HSB.out _ HL4.out HKB.out).mono ?_; rintro e w8 ⟨v8, rfl, o8, b8⟩; obtain ⟨g8, c8, rfl, -⟩ := own_addr o8 (steps_ne b); have i7 := hidI (IntS.ofOwn (own_below O7.out b8) (steps_I64 HKA.out)).2; have i8 := hidI (IntS.ofOwn o8 (steps_I64 HKB.out)).2; have c0 := (b8.cell (p := ⟨w.heap.size, 0, none⟩) q.out).trans c0; have HB := hidI (HB.out.trans (b8.mono (Nat.le_of_lt q.out))); have q := hidI (Nat.lt_of_lt_of_le q.out b8.size); clear b8; clear o8
        go_wp2_with fail
        refine (slices_Equal a.steps b.steps _ _ _ i7.out i8.out (by have := HL3.out; omega) (by have := HL4.out; omega)).mono ?_; rintro e w9 ⟨rfl, n9, rfl⟩; have b9 := bdraw w8 n9; have c0 := (b9.cell (p := ⟨w.heap.size, 0, none⟩) q.out).trans c0; have HB := hidI (HB.out.trans (b9.mono (Nat.le_of_lt q.out))); have q := hidI (Nat.lt_of_lt_of_le q.out b9.size); clear b9; rw [HD.out]
        go_wp2_with fail
        go_ret
        exact ⟨by rw [HV.out]; rfl, HB.out⟩
      · have HV : Hid ((smpTwo 8 a b).val = .iface 83 (.agg #[.int .i64 8, .iface Ta Aa, .iface Tb Ab])) := hidI (by rw [HT.out.2.2.2.2 P12.out P3.out P4.out p5, Cond.val, VA.out, VB.out])
        have HD := hidI (decide_eq_false p5); clear p5
        go_wp2_with fail
        refine (LA.out _).mono ?_; rintro e w1 ⟨rfl, b1⟩; have c0 := (b1.cell (p := ⟨w.heap.size, 0, none⟩) q.out).trans c0; have HB := hidI (HB.out.trans (b1.mono (Nat.le_of_lt q.out))); have q := hidI (Nat.lt_of_lt_of_le q.out b1.size); clear b1
        go_wp2_with fail
        refine (LB.out _).mono ?_; rintro e w2 ⟨rfl, b2⟩; have c0 := (b2.cell (p := ⟨w.heap.size, 0, none⟩) q.out).trans c0; have HB := hidI (HB.out.trans (b2.mono (Nat.le_of_lt q.out))); have q := hidI (Nat.lt_of_lt_of_le q.out b2.size); clear b2
        go_wp2_with fail
        refine (LA.out _).mono ?_; rintro e w3 ⟨rfl, b3⟩; have c0 := (b3.cell (p := ⟨w.heap.size, 0, none⟩) q.out).trans c0; have HB := hidI (HB.out.trans (b3.mono (Nat.le_of_lt q.out))); have q := hidI (Nat.lt_of_lt_of_le q.out b3.size); clear b3
        go_wp2_with fail
        refine (LB.out _).mono ?_; rintro e w4 ⟨rfl, b4⟩; have c0 := (b4.cell (p := ⟨w.heap.size, 0, none⟩) q.out).trans c0; have HB := hidI (HB.out.trans (b4.mono (Nat.le_of_lt q.out))); have q := hidI (Nat.lt_of_lt_of_le q.out b4.size); clear b4
        go_wp2_with fail
        refine (HSA.out _ HL3.out HKA.out).mono ?_; rintro e w7 ⟨v7, rfl, o7, b7⟩; obtain ⟨g7, c7, rfl, -⟩ := own_addr o7 (steps_ne a); have O7 := hidI o7; have c0 := (b7.cell (p := ⟨w.heap.size, 0, none⟩) q.out).trans c0; have HB := hidI (HB.out.trans (b7.mono (Nat.le_of_lt q.out))); have q := hidI (Nat.lt_of_lt_of_le q.out b7.size); clear b7; clear o7
        go_wp2_with fail
        refine (HSB.out _ HL4.out HKB.out).mono ?_; rintro e w8 ⟨v8, rfl, o8, b8⟩; obtain ⟨g8, c8, rfl, -⟩ := own_addr o8 (steps_ne b); have i7 := hidI (IntS.ofOwn (own_below O7.out b8) (steps_I64 HKA.out)).2; have i8 := hidI (IntS.ofOwn o8 (steps_I64 HKB.out)).2; have c0 := (b8.cell (p := ⟨w.heap.size, 0, none⟩) q.out).trans c0; have HB := hidI (HB.out.trans (b8.mono (Nat.le_of_lt q.out))); have q := hidI (Nat.lt_of_lt_of_le q.out b8.size); clear b8; clear o8
        go_wp2_with fail
        refine (slices_Equal a.steps b.steps _ _ _ i7.out i8.out (by have := HL3.out; omega) (by have := HL4.out; omega)).mono ?_; rintro e w9 ⟨rfl, n9, rfl⟩; have b9 := bdraw w8 n9; have c0 := (b9.cell (p := ⟨w.heap.size, 0, none⟩) q.out).trans c0; have HB := hidI (HB.out.trans (b9.mono (Nat.le_of_lt q.out))); have q := hidI (Nat.lt_of_lt_of_le q.out b9.size); clear b9; rw [HD.out]
        go_wp2_with fail
        go_ret
        exact ⟨by rw [HV.out]; rfl, HB.out⟩
    ·
      have HT := hidI (smpTwo_cases 9 a b)
      by_cases p1 : pa = 5
      · have HV : Hid ((smpTwo 9 a b).val = .iface 76 (.agg #[.int .i64 5])) := hidI (by rw [HT.out.1 (.inl (HPA.out.trans p1))]; rfl)
        subst p1
        go_wp2_with fail
        refine (LA.out _).mono ?_; rintro e w1 ⟨rfl, b1⟩; have c0 := (b1.cell (p := ⟨w.heap.size, 0, none⟩) q.out).trans c0; have HB := hidI (HB.out.trans (b1.mono (Nat.le_of_lt q.out))); have q := hidI (Nat.lt_of_lt_of_le q.out b1.size); clear b1
        go_wp2_with fail
        go_ret
        exact ⟨by rw [HV.out]; rfl, HB.out⟩
      have n1 : (pa == 5) = false := by simp only [beq_eq_false_iff_ne, ne_eq]; exact p1
      by_cases p2 : pb = 5
      · have HV : Hid ((smpTwo 9 a b).val = .iface 76 (.agg #[.int .i64 5])) := hidI (by rw [HT.out.1 (.inr (HPB.out.trans p2))]; rfl)
        subst p2; clear p1
        go_wp2_with fail
        refine (LA.out _).mono ?_; rintro e w1 ⟨rfl, b1⟩; have c0 := (b1.cell (p := ⟨w.heap.size, 0, none⟩) q.out).trans c0; have HB := hidI (HB.out.trans (b1.mono (Nat.le_of_lt q.out))); have q := hidI (Nat.lt_of_lt_of_le q.out b1.size); clear b1
        go_wp2_with fail
        refine (LB.out _).mono ?_; rintro e w2 ⟨rfl, b2⟩; have c0 := (b2.cell (p := ⟨w.heap.size, 0, none⟩) q.out).trans c0; have HB := hidI (HB.out.trans (b2.mono (Nat.le_of_lt q.out))); have q := hidI (Nat.lt_of_lt_of_le q.out b2.size); clear b2
        go_wp2_with fail
        go_ret
        exact ⟨by rw [HV.out]; rfl, HB.out⟩
      have n2 : (pb == 5) = false := by simp only [beq_eq_false_iff_ne, ne_eq]; exact p2
      have P12 : Hid (¬ (a.last = strongOf 9 ∨ b.last = strongOf 9)) := hidI (by rw [HPA.out, HPB.out]; show ¬ (pa = 5 ∨ pb = 5); omega)
      clear p1 p2
      by_cases p3 : pa = 6
      · have HV : Hid ((smpTwo 9 a b).val = .iface Tb Ab) := hidI (by rw [HT.out.2.1 P12.out (HPA.out.trans p3)]; exact VB.out)
        subst p3
        go_wp2_with fail
        refine (LA.out _).mono ?_; rintro e w1 ⟨rfl, b1⟩; have c0 := (b1.cell (p := ⟨w.heap.size, 0, none⟩) q.out).trans c0; have HB := hidI (HB.out.trans (b1.mono (Nat.le_of_lt q.out))); have q := hidI (Nat.lt_of_lt_of_le q.out b1.size); clear b1
        go_wp2_with fail
        refine (LB.out _).mono ?_; rintro e w2 ⟨rfl, b2⟩; have c0 := (b2.cell (p := ⟨w.heap.size, 0, none⟩) q.out).trans c0; have HB := hidI (HB.out.trans (b2.mono (Nat.le_of_lt q.out))); have q := hidI (Nat.lt_of_lt_of_le q.out b2.size); clear b2
        go_wp2_with fail
        refine (LA.out _).mono ?_; rintro e w3 ⟨rfl, b3⟩; have c0 := (b3.cell (p := ⟨w.heap.size, 0, none⟩) q.out).trans c0; have HB := hidI (HB.out.trans (b3.mono (Nat.le_of_lt q.out))); have q := hidI (Nat.lt_of_lt_of_le q.out b3.size); clear b3
        go_wp2_with fail
        go_ret
        exact ⟨by rw [HV.out]; rfl, HB.out⟩
      have n3 : (pa == 6) = false := by simp only [beq_eq_false_iff_ne, ne_eq]; exact p3
      have P3 : Hid (¬ a.last = 11 - strongOf 9) := hidI (by rw [HPA.out]; exact p3)
      clear p3
      by_cases p4 : pb = 6
      · have HV : Hid ((smpTwo 9 a b).val = .iface Ta Aa) := hidI (by rw [HT.out.2.2.1 P12.out P3.out (HPB.out.trans p4)]; exact VA.out)
        subst p4
        go_wp2_with fail
        refine (LA.out _).mono ?_; rintro e w1 ⟨rfl, b1⟩; have c0 := (b1.cell (p := ⟨w.heap.size, 0, none⟩) q.out).trans c0; have HB := hidI (HB.out.trans (b1.mono (Nat.le_of_lt q.out))); have q := hidI (Nat.lt_of_lt_of_le q.out b1.size); clear b1
        go_wp2_with fail
        refine (LB.out _).mono ?_; rintro e w2 ⟨rfl, b2⟩; have c0 := (b2.cell (p := ⟨w.heap.size, 0, none⟩) q.out).trans c0; have HB := hidI (HB.out.trans (b2.mono (Nat.le_of_lt q.out))); have q := hidI (Nat.lt_of_lt_of_le q.out b2.size); clear b2
        go_wp2_with fail
        refine (LA.out _).mono ?_; rintro e w3 ⟨rfl, b3⟩; have c0 := (b3.cell (p := ⟨w.heap.size, 0, none⟩) q.out).trans c0; have HB := hidI (HB.out.trans (b3.mono (Nat.le_of_lt q.out))); have q := hidI (Nat.lt_of_lt_of_le q.out b3.size); clear b3
        go_wp2_with fail
        refine (LB.out _).mono ?_; rintro e w4 ⟨rfl, b4⟩; have c0 := (b4.cell (p := ⟨w.heap.size, 0, none⟩) q.out).trans c0; have HB := hidI (HB.out.trans (b4.mono (Nat.le_of_lt q.out))); have q := hidI (Nat.lt_of_lt_of_le q.out b4.size); clear b4
        go_wp2_with fail
        go_ret
        exact ⟨by rw [HV.out]; rfl, HB.out⟩
      have n4 : (pb == 6) = false := by simp only [beq_eq_false_iff_ne, ne_eq]; exact p4
      have P4 : Hid (¬ b.last = 11 - strongOf 9) := hidI (by rw [HPB.out]; exact p4)
      clear p4
      by_cases p5 : a.steps = b.steps
      · have HV : Hid ((smpTwo 9 a b).val = .iface Ta Aa) := hidI (by rw [HT.out.2.2.2.1 P12.out P3.out P4.out p5]; exact VA.out)
        have HD := hidI (decide_eq_true p5); clear p5
        go_wp2_with fail
        refine (LA.out _).mono ?_; rintro e w1 ⟨rfl, b1⟩; have c0 := (b1.cell (p := ⟨w.heap.size, 0, none⟩) q.out).trans c0; have HB := hidI (HB.out.trans (b1.mono (Nat.le_of_lt q.out))); have q := hidI (Nat.lt_of_lt_of_le q.out b1.size); clear b1
        go_wp2_with fail
        refine (LB.out _).mono ?_; rintro e w2 ⟨rfl, b2⟩; have c0 := (b2.cell (p := ⟨w.heap.size, 0, none⟩) q.out).trans c0; have HB := hidI (HB.out.trans (b2.mono (Nat.le_of_lt q.out))); have q := hidI (Nat.lt_of_lt_of_le q.out b2.size); clear b2
        go_wp2_with fail
        refine (LA.out _).mono ?_; rintro e w3 ⟨rfl, b3⟩; have c0 := (b3.cell (p := ⟨w.heap.size, 0, none⟩) q.out).trans c0; have HB := hidI (HB.out.trans (b3.mono (Nat.le_of_lt q.out))); have q := hidI (Nat.lt_of_lt_of_le q.out b3.size); clear b3
        go_wp2_with fail
        refine (LB.out _).mono ?_; rintro e w4 ⟨rfl, b4⟩; have c0 := (b4.cell (p := ⟨w.heap.size, 0, none⟩) q.out).trans c0; have HB := hidI (HB.out.trans (b4.mono (Nat.le_of_lt q.out))); have q := hidI (Nat.lt_of_lt_of_le q.out b4.size); clear b4
        go_wp2_with fail
        refine (HSA.out _ HL3.out HKA.out).mono ?_; rintro e w7 ⟨v7, rfl, o7, b7⟩; obtain ⟨g7, c7, rfl, -⟩ := own_addr o7 (steps_ne a); have O7 := hidI o7; have c0 := (b7.cell (p := ⟨w.heap.size, 0, none⟩) q.out).trans c0; have HB := hidI (HB.out.trans (b7.mono (Nat.le_of_lt q.out))); have q := hidI (Nat.lt_of_lt_of_le q.out b7.size); clear b7; clear o7
        go_wp2_with fail
        refine (HSB.out _ HL4.out HKB.out).mono ?_; rintro e w8 ⟨v8, rfl, o8, b8⟩; obtain ⟨g8, c8, rfl, -⟩ := own_addr o8 (steps_ne b); have i7 := hidI (IntS.ofOwn (own_below O7.out b8) (steps_I64 HKA.out)).2; have i8 := hidI (IntS.ofOwn o8 (steps_I64 HKB.out)).2; have c0 := (b8.cell (p := ⟨w.heap.size, 0, none⟩) q.out).trans c0; have HB := hidI (HB.out.trans (b8.mono (Nat.le_of_lt q.out))); have q := hidI (Nat.lt_of_lt_of_le q.out b8.size); clear b8; clear o8
        go_wp2_with fail
        refine (slices_Equal a.steps b.steps _ _ _ i7.out i8.out (by have := HL3.out; omega) (by have := HL4.out; omega)).mono ?_; rintro e w9 ⟨rfl, n9, rfl⟩; have b9 := bdraw w8 n9; have c0 := (b9.cell (p := ⟨w.heap.size, 0, none⟩) q.out).trans c0; have HB := hidI (HB.out.trans (b9.mono (Nat.le_of_lt q.out))); have q := hidI (Nat.lt_of_lt_of_le q.out b9.size); clear b9; rw [HD.out]
        go_wp2_with fail
        go_ret
        exact ⟨by rw [HV.out]; rfl, HB.out⟩
      · have HV : Hid ((smpTwo 9 a b).val = .iface 83 (.agg #[.int .i64 9, .iface Ta Aa, .iface Tb Ab])) := hidI (by rw [HT.out.2.2.2.2 P12.out P3.out P4.out p5, Cond.val, VA.out, VB.out])
        have HD := hidI (decide_eq_false p5); clear p5
        go_wp2_with fail
        refine (LA.out _).mono ?_; rintro e w1 ⟨rfl, b1⟩; have c0 := (b1.cell (p := ⟨w.heap.size, 0, none⟩) q.out).trans c0; have HB := hidI (HB.out.trans (b1.mono (Nat.le_of_lt q.out))); have q := hidI (Nat.lt_of_lt_of_le q.out b1.size); clear b1
        go_wp2_with fail
        refine (LB.out _).mono ?_; rintro e w2 ⟨rfl, b2⟩; have c0 := (b2.cell (p := ⟨w.heap.size, 0, none⟩) q.out).trans c0; have HB := hidI (HB.out.trans (b2.mono (Nat.le_of_lt q.out))); have q := hidI (Nat.lt_of_lt_of_le q.out b2.size); clear b2
        go_wp2_with fail
        refine (LA.out _).mono ?_; rintro e w3 ⟨rfl, b3⟩; have c0 := (b3.cell (p := ⟨w.heap.size, 0, none⟩) q.out).trans c0; have HB := hidI (HB.out.trans (b3.mono (Nat.le_of_lt q.out))); have q := hidI (Nat.lt_of_lt_of_le q.out b3.size); clear b3
        go_wp2_with fail
        refine (LB.out _).mono ?_; rintro e w4 ⟨rfl, b4⟩; have c0 := (b4.cell (p := ⟨w.heap.size, 0, none⟩) q.out).trans c0; have HB := hidI (HB.out.trans (b4.mono (Nat.le_of_lt q.out))); have q := hidI (Nat.lt_of_lt_of_le q.out b4.size); clear b4
        go_wp2_with fail
        refine (HSA.out _ HL3.out HKA.out).mono ?_; rintro e w7 ⟨v7, rfl, o7, b7⟩; obtain ⟨g7, c7, rfl, -⟩ := own_addr o7 (steps_ne a); have O7 := hidI o7; have c0 := (b7.cell (p := ⟨w.heap.size, 0, none⟩) q.out).trans c0; have HB := hidI (HB.out.trans (b7.mono (Nat.le_of_lt q.out))); have q := hidI (Nat.lt_of_lt_of_le q.out b7.size); clear b7; clear o7
        go_wp2_with fail
        refine (HSB.out _ HL4.out HKB.out).mono ?_; rintro e w8 ⟨v8, rfl, o8, b8⟩; obtain ⟨g8, c8, rfl, -⟩ := own_addr o8 (steps_ne b); have i7 := hidI (IntS.ofOwn (own_below O7.out b8) (steps_I64 HKA.out)).2; have i8 := hidI (IntS.ofOwn o8 (steps_I64 HKB.out)).2; have c0 := (b8.cell (p := ⟨w.heap.size, 0, none⟩) q.out).trans c0; have HB := hidI (HB.out.trans (b8.mono (Nat.le_of_lt q.out))); have q := hidI (Nat.lt_of_lt_of_le q.out b8.size); clear b8; clear o8
        go_wp2_with fail
        refine (slices_Equal a.steps b.steps _ _ _ i7.out i8.out (by have := HL3.out; omega) (by have := HL4.out; omega)).mono ?_; rintro e w9 ⟨rfl, n9, rfl⟩; have b9 := bdraw w8 n9; have c0 := (b9.cell (p := ⟨w.heap.size, 0, none⟩) q.out).trans c0; have HB := hidI (HB.out.trans (b9.mono (Nat.le_of_lt q.out))); have q := hidI (Nat.lt_of_lt_of_le q.out b9.size); clear b9; rw [HD.out]
        go_wp2_with fail
        go_ret
        exact ⟨by rw [HV.out]; rfl, HB.out⟩
end Go.Proofs.Ytnalhgknjnaliaa
