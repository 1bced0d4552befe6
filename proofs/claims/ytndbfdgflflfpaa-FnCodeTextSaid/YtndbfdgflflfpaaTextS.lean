/- The text of a part of a code: spec.l5Text. -/
import Derived.Test.YtndbfdgflflfpaaTextW
namespace Go.Proofs.Ytndbfdgflflfpaa
open Go.RowKit

theorem getD_part (p q r zs : List Int) (h : zs = p ++ q ++ r) (j : Nat) (hj : j < q.length) : zs.getD (p.length + j) 0 = q.getD j 0 := by
  subst h
  simp only [List.getD]
  rw [List.append_assoc, List.getElem?_append_right (by omega), List.getElem?_append_left (by omega)]; congr 2; omega

set_option maxRecDepth 100000 in
set_option maxHeartbeats 4000000 in
theorem spec_l5Text (t : Cond) : ∀ (p r zs : List Int) (v : Value) (w : World) (k : Nat) (n : Int), t.Ok → zs = p ++ t.steps ++ r → IntS w v zs → zs.length ≤ 1000 → k ≤ 3 → n = (p.length + t.steps.length : Nat) - 1 →
    Calls Try.prog 60 #[v, .int .i64 n, .int .i64 k] w fun e w' => e = .returned (.string (TB (txt t k))) ∧ Below w.heap.size w w' := by
  induction t with
  | one s =>
    intro p r zs v w k n hk hzs hv hlen hk3 hn
    have hk1 : 0 ≤ s ∧ s ≤ 6 := hk
    obtain ⟨k1, k2⟩ := hk1
    have hL : zs.length = p.length + 1 + r.length := by rw [hzs]; simp [Cond.steps]; omega
    have hg := getD_part p _ r zs hzs 0 (by simp [Cond.steps])
    obtain ⟨b, off, cap, rfl, hcap, hmax, hb, hc⟩ := hv.addr (by omega)
    have hn' : n = (p.length : Int) := by rw [hn]; simp [Cond.steps]
    subst hn'
    have c0 : w.cell? ⟨b, off + p.length, none⟩ = some (.int .i64 s) := by
      rw [hc _ (by omega)]
      have : zs.getD p.length 0 = s := by simpa [Cond.steps] using hg
      rw [this]
    have h1 : (p.length : Int) < (zs.length : Int) := by omega
    have H0 := conv_one 97 97 rfl (by omega) w; have H1 := conv_one 98 98 rfl (by omega) w; have H2 := conv_one 99 99 rfl (by omega) w; have H3 := conv_one 100 100 rfl (by omega) w; have H4 := conv_one 101 101 rfl (by omega) w
    have HB := hidI (fun o => (Below.refl w.heap.size w).alloc (Nat.le_refl _) o)
    have hs : s = 0 ∨ s = 1 ∨ s = 2 ∨ s = 3 ∨ s = 4 ∨ s = 5 ∨ s = 6 := by omega
    clear hk hv hlen hk3 hc hg hL hzs k1 k2 hn
    show Calls Try.prog 60 #[.slice (some ⟨b, off, none⟩) zs.length cap, .int .i64 p.length, .int .i64 k] w fun e w' => e = .returned (.string (TB [chr s])) ∧ Below w.heap.size w w'
    rcases hs with rfl | rfl | rfl | rfl | rfl | rfl | rfl
    all_goals
      go_enter Try.func60, Try.ntmps60
      go_wp2_with fail
      go_ret
      exact ⟨rfl, by first | exact HB.out _ | exact Below.refl _ _⟩
  | neg c ih =>
    intro p r zs v w k n hk hzs hv hlen hk3 hn
    have hN : (Cond.neg c).steps.length = c.steps.length + 1 := by simp [Cond.steps]
    have hL : zs.length = p.length + (c.steps.length + 1) + r.length := by rw [hzs]; simp [Cond.steps]; omega
    have hg := getD_part p _ r zs hzs c.steps.length (by omega)
    rw [hN] at hn
    have hc1 := steps_ne c
    have IH := hidI (ih p (7 :: r) zs v w 3 (n - 1) hk (by rw [hzs]; simp [Cond.steps]) hv hlen (by omega) (by omega))
    obtain ⟨b, off, cap, rfl, hcap, hmax, hb, hc⟩ := hv.addr (by omega)
    have c0 : w.cell? ⟨b, off + n.toNat, none⟩ = some (.int .i64 7) := by
      rw [show n.toNat = p.length + c.steps.length by omega, hc _ (by omega), hg]; simp [Cond.steps]
    have h0 : 0 ≤ n := by omega
    have h1 : n < (zs.length : Int) := by omega
    have h2 : n ≤ 1000 := by omega
    have htl := txt_len c 3
    have HA : ∀ w, (Op.stringOp .add ⟨#[33]⟩ (TB (txt c 3))).run Try.prog w = .ok (.string (TB (33 :: txt c 3))) w := fun w => add_TB [33] _ (by decide) (by omega) w
    clear ih hk hv hlen hk3 hc hg hL hzs hN hn hc1 htl
    show Calls Try.prog 60 #[.slice (some ⟨b, off, none⟩) zs.length cap, .int .i64 n, .int .i64 k] w fun e w' => e = .returned (.string (TB (33 :: txt c 3))) ∧ Below w.heap.size w w'
    generalize txt c 3 = L at *
    go_enter Try.func60, Try.ntmps60
    go_wp2_with fail
    refine IH.out.mono ?_; rintro e w1 ⟨rfl, b1⟩
    have HB := hidI b1; clear b1
    go_wp2_with fail
    go_ret
    exact ⟨rfl, HB.out⟩
  | two s l h ihl ihh =>
    intro p r zs v w k n hk hzs hv hlen hk3 hn
    obtain ⟨k1, k2, k3⟩ := hk
    have hN : (Cond.two s l h).steps.length = l.steps.length + h.steps.length + 1 := by simp [Cond.steps]; omega
    have hL : zs.length = p.length + (l.steps.length + h.steps.length + 1) + r.length := by rw [hzs]; simp [Cond.steps]; omega
    have hg := getD_part p _ r zs hzs (l.steps.length + h.steps.length) (by omega)
    rw [hN] at hn
    have hl1 := steps_ne l
    have hh1 := steps_ne h
    have IHL := hidI (fun m (hm : m ≤ 3) => ihl p (h.steps ++ s :: r) zs v w m ((p.length : Int) + l.steps.length - 1) k2 (by rw [hzs]; simp [Cond.steps]) hv hlen hm (by omega))
    have IHH := hidI (fun W (hW : Below w.heap.size w W) m (hm : m ≤ 3) => ihh (p ++ l.steps) (s :: r) zs v W m (n - 1) k3 (by rw [hzs]; simp [Cond.steps]) (hv.below hW) hlen hm (by rw [List.length_append]; omega))
    have HSP := hidI (fun (hx : IntS w v ((p ++ l.steps) ++ h.steps ++ s :: r)) => spec_l5Span (p ++ l.steps) (s :: r) h k3 v w hx (by simp at hL ⊢; omega) (n - 1) (by rw [List.length_append]; omega))
    have HSP2 := hidI (HSP.out (by have e : (p ++ l.steps) ++ h.steps ++ s :: r = zs := by rw [hzs]; simp [Cond.steps]
                                   rw [e]; exact hv))
    rw [List.length_append] at HSP2
    obtain ⟨b, off, cap, rfl, hcap, hmax, hb, hc⟩ := hv.addr (by omega)
    have c0 : w.cell? ⟨b, off + n.toNat, none⟩ = some (.int .i64 s) := by
      rw [show n.toNat = p.length + (l.steps.length + h.steps.length) by omega, hc _ (by omega), hg]; simp only [Cond.steps, List.getD]; rw [List.getElem?_append_right (by simp)]; simp
    have h0 : 0 ≤ n := by omega
    have h1 : n < (zs.length : Int) := by omega
    have h2 : n ≤ 1000 := by omega
    have ha := txt_len l 1; have ha2 := txt_len l 2; have hb1 := txt_len h 2; have hb2 := txt_len h 3
    obtain ⟨q, hq⟩ : ∃ q : Int, q = (p.length : Int) + l.steps.length := ⟨_, rfl⟩
    have q1 : 0 ≤ q - 1 := by omega
    have q2 : q ≤ 1000 := by omega
    have hqc : ((p.length + l.steps.length : Nat) : Int) = q := by omega
    rw [hqc] at HSP2
    rw [← hq] at IHL
    have A1 : ∀ w, (Op.stringOp .add (TB (txt l 2)) ⟨#[38]⟩).run Try.prog w = .ok (.string (TB (txt l 2 ++ [38]))) w := fun w => add_TB _ [38] (by omega) (by decide) w
    have A2 : ∀ w, (Op.stringOp .add (TB (txt l 2 ++ [38])) (TB (txt h 3))).run Try.prog w = .ok (.string (TB (txt l 2 ++ 38 :: txt h 3))) w := fun w => by rw [add_TB _ _ (by simp; omega) (by omega) w]; simp
    have A3 : ∀ w, (Op.stringOp .add (TB (txt l 1)) ⟨#[124]⟩).run Try.prog w = .ok (.string (TB (txt l 1 ++ [124]))) w := fun w => add_TB _ [124] (by omega) (by decide) w
    have A4 : ∀ w, (Op.stringOp .add (TB (txt l 1 ++ [124])) (TB (txt h 2))).run Try.prog w = .ok (.string (TB (txt l 1 ++ 124 :: txt h 2))) w := fun w => by rw [add_TB _ _ (by simp; omega) (by omega) w]; simp
    have A5 : ∀ w, (Op.stringOp .add ⟨#[40]⟩ (TB (txt l 2 ++ 38 :: txt h 3))).run Try.prog w = .ok (.string (TB (40 :: (txt l 2 ++ 38 :: txt h 3)))) w := fun w => add_TB [40] _ (by decide) (by simp; omega) w
    have A6 : ∀ w, (Op.stringOp .add (TB (40 :: (txt l 2 ++ 38 :: txt h 3))) ⟨#[41]⟩).run Try.prog w = .ok (.string (TB (40 :: ((txt l 2 ++ 38 :: txt h 3) ++ [41])))) w := fun w => add_TB _ [41] (by simp; omega) (by decide) w
    have A7 : ∀ w, (Op.stringOp .add ⟨#[40]⟩ (TB (txt l 1 ++ 124 :: txt h 2))).run Try.prog w = .ok (.string (TB (40 :: (txt l 1 ++ 124 :: txt h 2)))) w := fun w => add_TB [40] _ (by decide) (by simp; omega) w
    have A8 : ∀ w, (Op.stringOp .add (TB (40 :: (txt l 1 ++ 124 :: txt h 2))) ⟨#[41]⟩).run Try.prog w = .ok (.string (TB (40 :: ((txt l 1 ++ 124 :: txt h 2) ++ [41])))) w := fun w => add_TB _ [41] (by simp; omega) (by decide) w
    have HV8 := hidI (fun (h1 : 2 < k) => (show txt (.two 8 l h) k = 40 :: ((txt l 2 ++ 38 :: txt h 3) ++ [41]) by rw [txt]; simp [h1]))
    have HV8' := hidI (fun (h1 : ¬ 2 < k) => (show txt (.two 8 l h) k = txt l 2 ++ 38 :: txt h 3 by rw [txt]; simp [h1]))
    have HV9 := hidI (fun (h1 : 1 < k) => (show txt (.two 9 l h) k = 40 :: ((txt l 1 ++ 124 :: txt h 2) ++ [41]) by rw [txt]; simp [h1]))
    have HV9' := hidI (fun (h1 : ¬ 1 < k) => (show txt (.two 9 l h) k = txt l 1 ++ 124 :: txt h 2 by rw [txt]; simp [h1]))
    have IL1 := hidI (IHL.out 1 (by omega)); have IL2 := hidI (IHL.out 2 (by omega))
    have IH2 := hidI (fun W hW => IHH.out W hW 2 (by omega)); have IH3 := hidI (fun W hW => IHH.out W hW 3 (by omega))
    clear ihl ihh k2 k3 hv hlen hc hg hL hzs hN hn hl1 hh1 ha ha2 hb1 hb2 IHL IHH HSP hq hqc
    rcases k1 with rfl | rfl
    · by_cases hkk : 2 < k
      · have HW := hidI (HV8.out hkk)
        generalize txt l 2 ++ 38 :: txt h 3 = M at *
        generalize txt l 2 = M1 at *
        generalize txt h 3 = M2 at *
        have hk4 : (2 : Int) < (k : Int) := by omega
        clear HV8 HV8' HV9 HV9' hk3 hkk
        go_enter Try.func60, Try.ntmps60
        go_wp2_with fail
        refine HSP2.out.mono ?_; rintro e w' ⟨rfl, rfl⟩
        go_wp2_with fail
        refine IL2.out.mono ?_; rintro e w1 ⟨rfl, b1⟩
        have HB := hidI b1; clear b1
        go_wp2_with fail
        refine (IH3.out _ HB.out).mono ?_; rintro e w2 ⟨rfl, b2⟩
        have HB2 := hidI (bthen HB.out b2); clear b2
        go_wp2_with fail
        go_ret
        exact ⟨by rw [HW.out]; rfl, HB2.out⟩
      · have HW := hidI (HV8'.out hkk)
        generalize txt l 2 ++ 38 :: txt h 3 = M at *
        generalize txt l 2 = M1 at *
        generalize txt h 3 = M2 at *
        have hk4 : (k : Int) ≤ (2 : Int) := by omega
        clear HV8 HV8' HV9 HV9' hk3 hkk
        go_enter Try.func60, Try.ntmps60
        go_wp2_with fail
        refine HSP2.out.mono ?_; rintro e w' ⟨rfl, rfl⟩
        go_wp2_with fail
        refine IL2.out.mono ?_; rintro e w1 ⟨rfl, b1⟩
        have HB := hidI b1; clear b1
        go_wp2_with fail
        refine (IH3.out _ HB.out).mono ?_; rintro e w2 ⟨rfl, b2⟩
        have HB2 := hidI (bthen HB.out b2); clear b2
        go_wp2_with fail
        go_ret
        exact ⟨by rw [HW.out]; rfl, HB2.out⟩
    · by_cases hkk : 1 < k
      · have HW := hidI (HV9.out hkk)
        generalize txt l 1 ++ 124 :: txt h 2 = M at *
        generalize txt l 1 = M1 at *
        generalize txt h 2 = M2 at *
        have hk4 : (1 : Int) < (k : Int) := by omega
        clear HV8 HV8' HV9 HV9' hk3 hkk
        go_enter Try.func60, Try.ntmps60
        go_wp2_with fail
        refine HSP2.out.mono ?_; rintro e w' ⟨rfl, rfl⟩
        go_wp2_with fail
        refine IL1.out.mono ?_; rintro e w1 ⟨rfl, b1⟩
        have HB := hidI b1; clear b1
        go_wp2_with fail
        refine (IH2.out _ HB.out).mono ?_; rintro e w2 ⟨rfl, b2⟩
        have HB2 := hidI (bthen HB.out b2); clear b2
        go_wp2_with fail
        go_ret
        exact ⟨by rw [HW.out]; rfl, HB2.out⟩
      · have HW := hidI (HV9'.out hkk)
        generalize txt l 1 ++ 124 :: txt h 2 = M at *
        generalize txt l 1 = M1 at *
        generalize txt h 2 = M2 at *
        have hk4 : (k : Int) ≤ (1 : Int) := by omega
        clear HV8 HV8' HV9 HV9' hk3 hkk
        go_enter Try.func60, Try.ntmps60
        go_wp2_with fail
        refine HSP2.out.mono ?_; rintro e w' ⟨rfl, rfl⟩
        go_wp2_with fail
        refine IL1.out.mono ?_; rintro e w1 ⟨rfl, b1⟩
        have HB := hidI b1; clear b1
        go_wp2_with fail
        refine (IH2.out _ HB.out).mono ?_; rintro e w2 ⟨rfl, b2⟩
        have HB2 := hidI (bthen HB.out b2); clear b2
        go_wp2_with fail
        go_ret
        exact ⟨by rw [HW.out]; rfl, HB2.out⟩

def codeText (zs : List Int) : List Nat := if codeValid zs = true then txt (condOf zs) 0 else []

theorem codeText_no {zs : List Int} (h : codeValid zs = false) : codeText zs = [] := by unfold codeText; rw [h]; simp
theorem codeText_tree {t : Cond} (h : codeValid t.steps = true) (hk : t.Ok) : codeText t.steps = txt t 0 := by
  unfold codeText; rw [if_pos h, condOf_steps t hk]

set_option maxRecDepth 100000 in
set_option maxHeartbeats 1000000 in
theorem impl_CodeText (zs : List Int) (v : Value) (w : World) (h : IntS w v zs) :
    Calls Try.prog 29 #[v] w fun e w' => e = .returned (.string (TB (codeText zs))) ∧ Below w.heap.size w w' := by
  obtain ⟨ca, aa, e1⟩ : ∃ ca aa, v = .slice aa zs.length ca := by obtain ⟨_, a, c, h1, h2, _⟩ := h; exact ⟨c, a, h1⟩
  subst e1
  cases hv : codeValid zs
  · have HF := hidI (codeText_no hv)
    have HA := hidI hv; clear hv
    go_enter Try.func29, Try.ntmps29
    go_wp2_with fail
    refine (impl_CodeValid zs _ _ h).mono ?_; rintro e w' ⟨rfl, rfl⟩; rw [HA.out]
    go_wp2_with fail
    go_ret
    exact ⟨by rw [HF.out]; rfl, Below.refl _ _⟩
  · obtain ⟨t, hk, rfl, h40, h1, -, -⟩ := valid_tree hv
    have HA := hidI hv
    have HF := hidI (codeText_tree hv hk)
    have HFit := hidI (fits_cond t hk)
    have HCO := hidI (condOf_steps t hk)
    have HP := hidI (fun w => impl_conditionText t w hk (by omega))
    clear hv
    obtain ⟨T0, A0, hA0⟩ := t.shape
    rw [hA0] at HP
    have HTV := hidI hA0
    clear hA0 hk h1
    go_enter Try.func29, Try.ntmps29
    go_wp2_with fail
    refine (impl_CodeValid t.steps _ _ h).mono ?_; rintro e w' ⟨rfl, rfl⟩; rw [HA.out]
    go_wp2_with fail
    refine (impl_conditionOf t.steps _ _ h HFit.out h40).mono ?_; rintro e w1 ⟨rfl, b1⟩
    rw [HCO.out, HTV.out]
    go_wp2_with fail
    refine (HP.out _).mono ?_; rintro e w2 ⟨rfl, b2⟩
    have HB := hidI (bthen b1 b2); clear b1 b2
    go_wp2_with fail
    go_ret
    exact ⟨by rw [HF.out]; rfl, HB.out⟩

set_option maxHeartbeats 1000000 in
theorem spec_CodeText (zs : List Int) (v : Value) (w : World) (h : IntS w v zs) (hl : zs.length ≤ 4000000) :
    Calls Try.prog 31 #[v] w fun e w' => e = .returned (.string (TB (codeText zs))) ∧ Below w.heap.size w w' := by
  obtain ⟨ca, aa, e1⟩ : ∃ ca aa, v = .slice aa zs.length ca := by obtain ⟨_, a, c, h1, h2, _⟩ := h; exact ⟨c, a, h1⟩
  subst e1
  cases hv : codeValid zs
  · have HF := hidI (codeText_no hv)
    have HA := hidI hv; clear hv
    go_enter Try.func31, Try.ntmps31
    go_wp2_with fail
    refine (spec_CodeValid zs _ _ h hl).mono ?_; rintro e w' ⟨rfl, rfl⟩; rw [HA.out]
    go_wp2_with fail
    go_ret
    exact ⟨by rw [HF.out]; rfl, Below.refl _ _⟩
  · obtain ⟨t, hk, rfl, h40, h1, -, -⟩ := valid_tree hv
    have HA := hidI hv
    have HF := hidI (codeText_tree hv hk)
    have HP := hidI (fun n hn => spec_l5Text t [] [] t.steps _ w 0 n hk (by simp) h (by omega) (by omega) hn)
    have HL := hidI hl
    have hx : (0 : Int) ≤ (t.steps.length : Int) - 1 := by omega
    have hx2 : (t.steps.length : Int) ≤ 40 := by omega
    clear hv hl hk h1 h40
    go_enter Try.func31, Try.ntmps31
    go_wp2_with fail
    refine (spec_CodeValid t.steps _ _ h HL.out).mono ?_; rintro e w' ⟨rfl, rfl⟩; rw [HA.out]
    go_wp2_with fail
    refine (HP.out _ (by simp)).mono ?_; rintro e w2 ⟨rfl, b2⟩
    have HB := hidI b2; clear b2
    go_wp2_with fail
    go_ret
    exact ⟨by rw [HF.out]; rfl, HB.out⟩
end Go.Proofs.Ytndbfdgflflfpaa
