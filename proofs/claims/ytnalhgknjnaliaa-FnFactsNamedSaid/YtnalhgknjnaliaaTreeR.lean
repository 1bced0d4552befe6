/- spec.l5Simple makes a code simpler. -/
import Derived.Test.YtnalhgknjnaliaaSpan
import Derived.Test.YtnalhgknjnaliaaStepL
import Derived.Test.YtnalhgknjnaliaaSameL
import Derived.Deep.Cut
import Derived.Deep.CutRange
namespace Go.Proofs.Ytnalhgknjnaliaa
open Go.RowKit

theorem const_iff {a : Cond} (ha : a.Ok) {k : Int} (hk : k ≤ 6) : a.steps = [k] ↔ a.last = k := by
  constructor
  · intro h
    have := steps_last a
    rw [h] at this
    simpa using this.symm
  · intro h
    rw [last_const ha hk h]; rfl

theorem ints_one (w : World) (k : Int) (hk : I64 k) : IntS (w.alloc (.cells #[.int .i64 k] 3)) (.slice (some ⟨w.heap.size, 0, none⟩) 1 1) [k] :=
  (IntS.ofOwn (zs := [k]) (own_one w (.int .i64 k) 3) (by intro z hz; simp at hz; subst hz; exact hk)).2

set_option maxRecDepth 100000 in
set_option maxHeartbeats 4000000 in
theorem spec_l5Simple (c : Cond) : ∀ (v : Value) (w : World), IntS w v c.steps → c.Ok → c.steps.length ≤ 1000 → Calls Try.prog 56 #[v] w fun e w' =>
    ∃ v, e = .returned v ∧ w'.ownsRow w.heap.size 3 1 v (smp c).steps.length ((smp c).steps.map (Value.int .i64)) ∧ Below w.heap.size w w' := by
  induction c with
  | one s =>
    intro v w hv hk _
    have hk1 : 0 ≤ s ∧ s ≤ 6 := hk
    obtain ⟨k1, k2⟩ := hk1
    obtain ⟨b, off, cap, rfl, hcap, hmax, hb, hc⟩ := hv.addr (steps_ne _)
    have c0 : w.cell? ⟨b, off + 0, none⟩ = some (.int .i64 s) := hc 0 (steps_ne _)
    simp only [Nat.add_zero] at c0
    have h7 : (s == 7) = false := by simp; omega
    have h8 : (s == 8) = false := by simp; omega
    have h9 : (s == 9) = false := by simp; omega
    have HX := hidI (fun W (hW : Below w.heap.size w W) => hv.below hW)
    clear hk hc hv
    show Calls Try.prog 56 #[.slice (some ⟨b, off, none⟩) 1 cap] w _
    go_enter Try.func56, Try.ntmps56
    go_wp2_with (at_builtin; refine wpList_appendS _ rfl _ _ 24 rfl w.heap.size 3 Try.underlying24 infoInt (.slice (some ⟨_, 0, none⟩) 0 0) 0 [] _ [s] rfl rfl (own_made rfl (Nat.le_refl _) _) (HX.out _ ((Below.refl _ _).alloc (Nat.le_refl _) _)) (by simp) (by simp) ?_)
    intro x1 z1 r1 hb1 _ hn1
    obtain ⟨g1, d1, rfl, -⟩ := own_addr r1 (by simp)
    have Y1 := hidI (hb1 _ ((Below.refl w.heap.size w).alloc (Nat.le_refl _) _))
    have R1 := hidI r1; clear r1 hb1 hn1
    go_wp2_with fail
    go_ret
    exact ⟨_, rfl, R1.out, Y1.out⟩
  | neg c ih =>
    intro v w hv hk hlen
    obtain ⟨b, off, cap, rfl, hcap, hmax, hb, hc⟩ := hv.addr (steps_ne _)
    have hN : (Cond.neg c).steps.length = c.steps.length + 1 := by simp [Cond.steps]
    have c0 : w.cell? ⟨b, off + c.steps.length, none⟩ = some (.int .i64 7) := by rw [hc _ (by omega)]; simp [Cond.steps]
    have hv2 : IntS w (.slice (some ⟨b, off, none⟩) c.steps.length cap) c.steps := by
      have := hv.take (m := c.steps.length) (by omega)
      simpa [Cond.steps] using this
    rw [hN] at hcap hlen ⊢
    have IH := hidI (ih _ w hv2 hk (by omega))
    have hd := smp_Ok c hk
    have hdl := smp_len c
    have hl : c.steps.length ≤ 1000 := by omega
    unfold maxLen at hmax
    have hn1 : (0 : Int) ≤ (c.steps.length : Int) := by omega
    have hn2 : (c.steps.length : Int) ≤ 1000 := by omega
    show Calls Try.prog 56 #[.slice (some ⟨b, off, none⟩) (c.steps.length + 1) cap] w fun e w' => ∃ v, e = .returned v ∧ w'.ownsRow w.heap.size 3 1 v (smpNeg (smp c)).steps.length ((smpNeg (smp c)).steps.map (Value.int .i64)) ∧ Below w.heap.size w w'
    have HI := hidI (steps_I64 hd)
    generalize smp c = d at *
    clear hc ih hv hN hv2 hlen hk
    match d, hd with
    | .neg p, _ =>
      have hP : (Cond.neg p).steps.length = p.steps.length + 1 := by simp [Cond.steps]
      rw [hP] at IH hdl
      rw [show smpNeg (.neg p) = p from rfl]
      have hp1 := steps_ne p
      have hp3 : (p.steps.length : Int) ≤ 1000 := by omega
      have hp4 : (0 : Int) ≤ (p.steps.length : Int) := by omega
      clear hd hP
      go_enter Try.func56, Try.ntmps56
      go_wp2_with fail
      refine IH.out.mono ?_; rintro e w1 ⟨v1, rfl, o1, b1⟩
      obtain ⟨g, cp, rfl, -⟩ := own_addr o1 (by omega)
      have ce := (own_cell o1 (i := p.steps.length) (u := .int .i64 7) (by simp [Cond.steps])).1
      have HB := hidI b1; have O1 := hidI o1; have hbd := own_lt o1
      obtain ⟨-, -, hnc, hcm⟩ := hbd
      unfold maxLen at hcm
      have HX := hidI (fun W (hW : Below w1.heap.size w1 W) => (IntS.ofOwn o1 HI.out).2.below hW)
      clear o1 b1
      go_wp2_with fail
      go_ret
      refine ⟨_, rfl, ?_, HB.out⟩
      have := own_cut O1.out (m := p.steps.length) (by omega)
      simpa [Cond.steps] using this
    | .one s, hd =>
      rw [show (Cond.one s).steps.length = 1 from rfl] at IH
      have hd1 : 0 ≤ s ∧ s ≤ 6 := hd
      obtain ⟨h0, h6⟩ := hd1
      have h7 : (s == 7) = false := by simp; omega
      clear hd hdl
      by_cases h5 : s = 5
      · subst h5
        go_enter Try.func56, Try.ntmps56
        go_wp2_with fail
        refine IH.out.mono ?_; rintro e w1 ⟨v1, rfl, o1, b1⟩
        obtain ⟨g, cp, rfl, -⟩ := own_addr o1 (by omega)
        have ce := (own_cell o1 (i := 0) (u := .int .i64 5) (by simp [Cond.steps])).1
        have HB := hidI b1; have O1 := hidI o1; have hbd := own_lt o1
        obtain ⟨-, -, hnc, hcm⟩ := hbd
        unfold maxLen at hcm
        have HX := hidI (fun W (hW : Below w1.heap.size w1 W) => (IntS.ofOwn o1 HI.out).2.below hW)
        clear o1 b1
        go_wp2_with fail
        go_ret
        exact ⟨_, rfl, own_base (own_one w1 _ _) HB.out.size, HB.out.alloc HB.out.size _⟩
      by_cases h66 : s = 6
      · subst h66
        go_enter Try.func56, Try.ntmps56
        go_wp2_with fail
        refine IH.out.mono ?_; rintro e w1 ⟨v1, rfl, o1, b1⟩
        obtain ⟨g, cp, rfl, -⟩ := own_addr o1 (by omega)
        have ce := (own_cell o1 (i := 0) (u := .int .i64 6) (by simp [Cond.steps])).1
        have HB := hidI b1; have O1 := hidI o1; have hbd := own_lt o1
        obtain ⟨-, -, hnc, hcm⟩ := hbd
        unfold maxLen at hcm
        have HX := hidI (fun W (hW : Below w1.heap.size w1 W) => (IntS.ofOwn o1 HI.out).2.below hW)
        clear o1 b1
        go_wp2_with fail
        go_ret
        exact ⟨_, rfl, own_base (own_one w1 _ _) HB.out.size, HB.out.alloc HB.out.size _⟩
      have e5 : (s == 5) = false := by simp only [beq_eq_false_iff_ne, ne_eq]; exact h5
      have e6 : (s == 6) = false := by simp only [beq_eq_false_iff_ne, ne_eq]; exact h66
      have HV : Hid ((smpNeg (.one s)).steps = [s, 7]) := hidI (by rw [smpNeg_one, if_neg (by omega)]; rfl)
      clear h5 h66
      go_enter Try.func56, Try.ntmps56
      go_wp2_with fail
      refine IH.out.mono ?_; rintro e w1 ⟨v1, rfl, o1, b1⟩
      obtain ⟨g, cp, rfl, -⟩ := own_addr o1 (by omega)
      have ce := (own_cell o1 (i := 0) (u := .int .i64 s) (by simp [Cond.steps])).1
      have HB := hidI b1; have O1 := hidI o1; have hbd := own_lt o1
      obtain ⟨-, -, hnc, hcm⟩ := hbd
      unfold maxLen at hcm
      have HX := hidI (fun W (hW : Below w1.heap.size w1 W) => (IntS.ofOwn o1 HI.out).2.below hW)
      clear o1 b1
      have hs1 := HB.out.size
      go_wp2_with (at_builtin; refine wpList_appendS _ rfl _ _ 24 rfl w1.heap.size 3 Try.underlying24 infoInt (.slice (some ⟨_, 0, none⟩) 0 0) 0 [] (.slice (some ⟨g, 0, none⟩) 1 cp) [s] rfl rfl (own_made rfl (Nat.le_refl _) _) (HX.out _ ((Below.refl _ _).alloc (Nat.le_refl _) _)) (by first | omega | (simp; done) | (simp; omega)) (by simp) ?_)
      intro x1 z1 r1 hb1 _ hn1
      obtain ⟨g1, d1, rfl, -⟩ := own_addr r1 (by first | omega | (simp; done) | (simp; omega))
      (try simp only [Nat.zero_add, List.nil_append] at r1)
      have Y1 := hidI (hb1 _ ((Below.refl w1.heap.size w1).alloc (Nat.le_refl _) _))
      have R1 := hidI r1; clear r1 hb1 hn1
      have hs2 := Y1.out.size
      go_wp2_with (at_builtin; refine wpList_push _ rfl _ _ 24 rfl w1.heap.size 3 (.int .i64 0) 8 Try.underlying24 infoInt rfl (.slice (some ⟨g1, 0, none⟩) 1 d1) 1 ([s].map (Value.int .i64)) _ rfl rfl R1.out rfl (by first | omega | (simp; done)) (by decide) hs2 ?_)
      intro g3 d3 z3 hg3 r3 hb3 _
      have Y3 := hidI (hb3 _ Y1.out)
      have R3 := hidI r3; clear r3 hb3
      go_wp2_with fail
      go_ret
      refine ⟨_, rfl, ?_, HB.out.trans (Y3.out.mono HB.out.size)⟩
      have := own_base R3.out (base' := w.heap.size) HB.out.size
      simpa [HV.out] using this
    | .two s a b, hd =>
      obtain ⟨hs, -, -⟩ := hd
      have HV : Hid ((smpNeg (.two s a b)).steps = (Cond.two s a b).steps ++ [7]) := hidI rfl
      have hp1 := steps_ne (Cond.two s a b)
      have HLS : Hid ((Cond.two s a b).steps[(Cond.two s a b).steps.length - 1]? = some s) := hidI (by rw [← List.getLast?_eq_getElem?]; exact steps_last _)
      have e7 : (s == 7) = false := by simp only [beq_eq_false_iff_ne, ne_eq]; omega
      have e5 : (s == 5) = false := by simp only [beq_eq_false_iff_ne, ne_eq]; omega
      have e6 : (s == 6) = false := by simp only [beq_eq_false_iff_ne, ne_eq]; omega
      generalize (Cond.two s a b).steps = ys at *
      have hp3 : (ys.length : Int) ≤ 1000 := by omega
      have hp4 : (0 : Int) ≤ (ys.length : Int) - 1 := by omega
      have hp5 : ys.length - 1 < ys.length := by omega
      clear hs
      go_enter Try.func56, Try.ntmps56
      go_wp2_with fail
      refine IH.out.mono ?_; rintro e w1 ⟨v1, rfl, o1, b1⟩
      obtain ⟨g, cp, rfl, -⟩ := own_addr o1 (by omega)
      have ce := (own_cell o1 (i := ys.length - 1) (u := .int .i64 s) (by rw [List.getElem?_map, HLS.out]; rfl)).1
      have HB := hidI b1; have O1 := hidI o1; have hbd := own_lt o1
      obtain ⟨-, -, hnc, hcm⟩ := hbd
      unfold maxLen at hcm
      have HX := hidI (fun W (hW : Below w1.heap.size w1 W) => (IntS.ofOwn o1 HI.out).2.below hW)
      clear o1 b1
      have hs1 := HB.out.size
      go_wp2_with (at_builtin; refine wpList_appendS _ rfl _ _ 24 rfl w1.heap.size 3 Try.underlying24 infoInt (.slice (some ⟨_, 0, none⟩) 0 0) 0 [] (.slice (some ⟨g, 0, none⟩) ys.length cp) ys rfl rfl (own_made rfl (Nat.le_refl _) _) (HX.out _ ((Below.refl _ _).alloc (Nat.le_refl _) _)) (by first | omega | (simp; done) | (simp; omega)) (by simp) ?_)
      intro x1 z1 r1 hb1 _ hn1
      obtain ⟨g1, d1, rfl, -⟩ := own_addr r1 (by first | omega | (simp; done) | (simp; omega))
      (try simp only [Nat.zero_add, List.nil_append] at r1)
      have Y1 := hidI (hb1 _ ((Below.refl w1.heap.size w1).alloc (Nat.le_refl _) _))
      have R1 := hidI r1; clear r1 hb1 hn1
      have hs2 := Y1.out.size
      go_wp2_with (at_builtin; refine wpList_push _ rfl _ _ 24 rfl w1.heap.size 3 (.int .i64 0) 8 Try.underlying24 infoInt rfl (.slice (some ⟨g1, 0, none⟩) ys.length d1) ys.length (ys.map (Value.int .i64)) _ rfl rfl R1.out rfl (by first | omega | (simp; done)) (by decide) hs2 ?_)
      intro g3 d3 z3 hg3 r3 hb3 _
      have Y3 := hidI (hb3 _ Y1.out)
      have R3 := hidI r3; clear r3 hb3
      go_wp2_with fail
      go_ret
      refine ⟨_, rfl, ?_, HB.out.trans (Y3.out.mono HB.out.size)⟩
      have := own_base R3.out (base' := w.heap.size) HB.out.size
      simpa [HV.out] using this
  | two s lo hi ihl ihh =>
    intro v w hv hk hlen
    obtain ⟨k1, k2, k3⟩ := hk
    obtain ⟨b, off, cap, rfl, hcap, hmax, hb, hc⟩ := hv.addr (steps_ne _)
    have hN : (Cond.two s lo hi).steps.length = lo.steps.length + hi.steps.length + 1 := by simp [Cond.steps]; omega
    have c0 : w.cell? ⟨b, off + (lo.steps.length + hi.steps.length), none⟩ = some (.int .i64 s) := by
      rw [hc _ (by omega)]; simp only [Cond.steps, List.getD]; rw [List.getElem?_append_right (by simp)]; simp
    have hvl : IntS w (.slice (some ⟨b, off, none⟩) lo.steps.length cap) lo.steps := by
      have := hv.take (m := lo.steps.length) (by omega)
      simpa [Cond.steps] using this
    have hvh : IntS w (.slice (some ⟨b, off + lo.steps.length, none⟩) hi.steps.length (cap - lo.steps.length)) hi.steps := by
      have := hv.part (i := lo.steps.length) (m := hi.steps.length) (by omega) (steps_ne hi)
      simpa [Cond.steps] using this
    have HSP := hidI (fun n hn => spec_l5Span lo.steps [s] hi k3 (.slice (some ⟨b, off, none⟩) (Cond.two s lo hi).steps.length cap) w hv (by show (Cond.two s lo hi).steps.length ≤ 100000; omega) n hn)
    have HCL := hidI (ihl _ w hvl k2 (by omega))
    have HCH := hidI (fun W (hW : Below w.heap.size w W) => ihh _ W (hvh.below hW) k3 (by omega))
    have h0 := steps_ne hi
    have hl := steps_ne lo
    rw [hN] at HSP hcap hlen ⊢
    have hn1 : (0 : Int) < (hi.steps.length : Int) := by omega
    have hn2 : (0 : Int) < (lo.steps.length : Int) := by omega
    have hn3 : (lo.steps.length : Int) ≤ 1000 := by omega
    have hn4 : (hi.steps.length : Int) ≤ 1000 := by omega
    unfold maxLen at hmax
    have hcp : lo.steps.length ≤ cap := by omega
    have hcp2 : lo.steps.length + hi.steps.length ≤ cap := by omega
    have hsl : ((lo.steps.length : Int) + (hi.steps.length : Int)).toNat - lo.steps.length = hi.steps.length := by omega
    have hcp3 : (lo.steps.length : Int) ≤ (lo.steps.length : Int) + (hi.steps.length : Int) := by omega
    have hcp4 : (0 : Int) ≤ (lo.steps.length : Int) + (hi.steps.length : Int) := by omega
    have hcp5 : (lo.steps.length : Int) + (hi.steps.length : Int) ≤ (cap : Int) := by omega
    have HKA := hidI (smp_Ok lo k2); have HKB := hidI (smp_Ok hi k3)
    have hla := smp_len lo; have hlb := smp_len hi
    have ha3 : (smp lo).steps.length ≤ 1000 := by omega
    have hb3 : (smp hi).steps.length ≤ 1000 := by omega
    clear hv hvl hvh hc ihl ihh hla hlb h0 hl hlen hN
    show Calls Try.prog 56 #[.slice (some ⟨b, off, none⟩) (lo.steps.length + hi.steps.length + 1) cap] w fun e w' => ∃ v, e = .returned v ∧ w'.ownsRow w.heap.size 3 1 v (smpTwo s (smp lo) (smp hi)).steps.length ((smpTwo s (smp lo) (smp hi)).steps.map (Value.int .i64)) ∧ Below w.heap.size w w'
    rename Nat => b0
    generalize smp lo = a at *
    generalize smp hi = b at *
    have HA3 := hidI ha3; have HB3 := hidI hb3
    clear ha3 hb3
    have e7 : (s == 7) = false := by simp only [beq_eq_false_iff_ne, ne_eq]; omega
    obtain ⟨S, hS⟩ : ∃ S, strongOf s = S := ⟨_, rfl⟩
    obtain ⟨W, hW⟩ : ∃ W, 11 - S = W := ⟨_, rfl⟩
    have HT : Hid _ := hidI (smpTwo_cases s a b)
    rw [hS, hW] at HT
    have hS2 := strong_cases s
    rw [hS] at hS2
    have HS6 := hidI (show S ≤ 6 by omega); have HW6 := hidI (show W ≤ 6 by omega)
    have HS64 := hidI (show I64 S by unfold I64; omega); have HW64 := hidI (show I64 W by unfold I64; omega)
    have HSW := hidI (show s = 8 ∧ S = 6 ∧ W = 5 ∨ s = 9 ∧ S = 5 ∧ W = 6 by
      rcases k1 with rfl | rfl
      · have e : strongOf 8 = 6 := rfl
        omega
      · have e : strongOf 9 = 5 := rfl
        omega)
    have HK := hidI k1
    clear hS hW hS2 k1
    go_enter Try.func56, Try.ntmps56
    go_upto_region 14 with fail
    go_cut [51] from 52 (fun z wx => z = .bool true ∧ w = wx)
    case first =>
      rcases HK.out with rfl | rfl
      · go_wp2_with fail
        go_meet
        case rel => exact ⟨rfl, rfl⟩
      · go_wp2_with fail
        go_meet
        case rel => exact ⟨rfl, rfl⟩
    case rest =>
      obtain ⟨rfl, rfl⟩ := hcut
      go_wp2_with fail
      refine (HSP.out _ rfl).mono ?_; rintro e w' ⟨rfl, rfl⟩
      go_wp2_with fail
      refine HCL.out.mono ?_; rintro e w1 ⟨va, rfl, oa, b1⟩
      obtain ⟨ga, ca, rfl, -⟩ := own_addr oa (steps_ne a)
      have B1 := hidI b1; have OA1 := hidI oa
      clear oa b1
      go_wp2_with fail
      refine (HCH.out _ B1.out).mono ?_; rintro e w2 ⟨vb, rfl, ob, b2⟩
      obtain ⟨gb, cb, rfl, -⟩ := own_addr ob (steps_ne b)
      have OA := hidI (own_below OA1.out b2); have OB := hidI (own_base ob (base' := w.heap.size) B1.out.size)
      have YB := hidI (bthen B1.out b2)
      have HXA := hidI (fun W (hW : Below w2.heap.size w2 W) => (IntS.ofOwn (own_below OA1.out b2) (steps_I64 HKA.out)).2.below hW)
      have HXB := hidI (fun W (hW : Below w2.heap.size w2 W) => (IntS.ofOwn ob (steps_I64 HKB.out)).2.below hW)
      have Y := hidI (Below.refl w2.heap.size w2)
      have ha3 := HA3.out; have hb3 := HB3.out
      clear ob b2
      go_upto_if 72 with fail
      go_cut [10, 11] from 73 (fun z y wx => z = .int .i64 W ∧ y = .int .i64 S ∧ w2 = wx)
      case first =>
        rcases HSW.out with ⟨rfl, rfl, rfl⟩ | ⟨rfl, rfl, rfl⟩
        · go_wp2_with fail
          go_meet
          case rel => exact ⟨rfl, rfl, rfl⟩
        · go_wp2_with fail
          go_meet
          case rel => exact ⟨rfl, rfl, rfl⟩
      case rest =>
      obtain ⟨rfl, rfl, rfl⟩ := hcut
      by_cases p1 : a.steps = [S]
      · have HV : Hid ((smpTwo s a b).steps = [S]) := hidI (by rw [HT.out.1 (.inl ((const_iff HKA.out HS6.out).1 p1))]; rfl)
        have F1 := hidI (decide_eq_true p1); clear p1
        go_wp2_with fail
        refine (spec_l4Same a.steps [S] _ _ _ (HXA.out _ (Y.out.alloc Y.out.size _)) (ints_one _ _ (by first | exact HS64.out | exact HW64.out)) (by omega) (by simp)).mono ?_; rintro e x1 ⟨rfl, m1, hx1⟩; rw [F1.out]; have Y := hidI (show Below w2.heap.size w2 x1 by rw [hx1]; exact (Y.out.alloc Y.out.size (.cells #[.int .i64 S] 3)).trans ((bdraw _ m1).mono (by have := Y.out.size; first | omega | (simp; done) | (simp; omega)))); clear hx1
        go_wp2_with fail
        go_ret
        exact ⟨_, rfl, by rw [HV.out]; exact own_base (own_one _ _ _) (Nat.le_trans YB.out.size Y.out.size), (YB.out.trans (Y.out.mono YB.out.size)).alloc (Nat.le_trans YB.out.size Y.out.size) _⟩
      have F1 := hidI (decide_eq_false p1)
      by_cases p2 : b.steps = [S]
      · have HV : Hid ((smpTwo s a b).steps = [S]) := hidI (by rw [HT.out.1 (.inr ((const_iff HKB.out HS6.out).1 p2))]; rfl)
        have F2 := hidI (decide_eq_true p2); clear p1 p2
        go_wp2_with fail
        refine (spec_l4Same a.steps [S] _ _ _ (HXA.out _ (Y.out.alloc Y.out.size _)) (ints_one _ _ (by first | exact HS64.out | exact HW64.out)) (by omega) (by simp)).mono ?_; rintro e x1 ⟨rfl, m1, hx1⟩; rw [F1.out]; have Y := hidI (show Below w2.heap.size w2 x1 by rw [hx1]; exact (Y.out.alloc Y.out.size (.cells #[.int .i64 S] 3)).trans ((bdraw _ m1).mono (by have := Y.out.size; first | omega | (simp; done) | (simp; omega)))); clear hx1
        go_wp2_with fail
        refine (spec_l4Same b.steps [S] _ _ _ (HXB.out _ (Y.out.alloc Y.out.size _)) (ints_one _ _ (by first | exact HS64.out | exact HW64.out)) (by omega) (by simp)).mono ?_; rintro e x2 ⟨rfl, m2, hx2⟩; rw [F2.out]; have Y := hidI (show Below w2.heap.size w2 x2 by rw [hx2]; exact (Y.out.alloc Y.out.size (.cells #[.int .i64 S] 3)).trans ((bdraw _ m2).mono (by have := Y.out.size; first | omega | (simp; done) | (simp; omega)))); clear hx2
        go_wp2_with fail
        go_ret
        exact ⟨_, rfl, by rw [HV.out]; exact own_base (own_one _ _ _) (Nat.le_trans YB.out.size Y.out.size), (YB.out.trans (Y.out.mono YB.out.size)).alloc (Nat.le_trans YB.out.size Y.out.size) _⟩
      have F2 := hidI (decide_eq_false p2)
      have P12 : Hid (¬ (a.last = S ∨ b.last = S)) := hidI (by rintro (h | h); exact p1 ((const_iff HKA.out HS6.out).2 h); exact p2 ((const_iff HKB.out HS6.out).2 h))
      clear p1 p2
      by_cases p3 : a.steps = [W]
      · have HV : Hid ((smpTwo s a b).steps = b.steps) := hidI (by rw [HT.out.2.1 P12.out ((const_iff HKA.out HW6.out).1 p3)])
        have F3 := hidI (decide_eq_true p3); clear p3
        go_wp2_with fail
        refine (spec_l4Same a.steps [S] _ _ _ (HXA.out _ (Y.out.alloc Y.out.size _)) (ints_one _ _ (by first | exact HS64.out | exact HW64.out)) (by omega) (by simp)).mono ?_; rintro e x1 ⟨rfl, m1, hx1⟩; rw [F1.out]; have Y := hidI (show Below w2.heap.size w2 x1 by rw [hx1]; exact (Y.out.alloc Y.out.size (.cells #[.int .i64 S] 3)).trans ((bdraw _ m1).mono (by have := Y.out.size; first | omega | (simp; done) | (simp; omega)))); clear hx1
        go_wp2_with fail
        refine (spec_l4Same b.steps [S] _ _ _ (HXB.out _ (Y.out.alloc Y.out.size _)) (ints_one _ _ (by first | exact HS64.out | exact HW64.out)) (by omega) (by simp)).mono ?_; rintro e x2 ⟨rfl, m2, hx2⟩; rw [F2.out]; have Y := hidI (show Below w2.heap.size w2 x2 by rw [hx2]; exact (Y.out.alloc Y.out.size (.cells #[.int .i64 S] 3)).trans ((bdraw _ m2).mono (by have := Y.out.size; first | omega | (simp; done) | (simp; omega)))); clear hx2
        go_wp2_with fail
        refine (spec_l4Same a.steps [W] _ _ _ (HXA.out _ (Y.out.alloc Y.out.size _)) (ints_one _ _ (by first | exact HS64.out | exact HW64.out)) (by omega) (by simp)).mono ?_; rintro e x3 ⟨rfl, m3, hx3⟩; rw [F3.out]; have Y := hidI (show Below w2.heap.size w2 x3 by rw [hx3]; exact (Y.out.alloc Y.out.size (.cells #[.int .i64 W] 3)).trans ((bdraw _ m3).mono (by have := Y.out.size; first | omega | (simp; done) | (simp; omega)))); clear hx3
        go_wp2_with fail
        go_ret
        exact ⟨_, rfl, by rw [HV.out]; exact own_below OB.out Y.out, YB.out.trans (Y.out.mono YB.out.size)⟩
      have F3 := hidI (decide_eq_false p3)
      have P3 : Hid (¬ a.last = W) := hidI (fun h => p3 ((const_iff HKA.out HW6.out).2 h))
      by_cases p5 : a.steps = b.steps
      · have HV : Hid ((smpTwo s a b).steps = b.steps) := hidI (by rw [HT.out.2.2.2.1 P12.out P3.out (fun h => p3 (by rw [p5]; exact (const_iff HKB.out HW6.out).2 h)) p5, p5])
        have F4 := hidI (decide_eq_true p5); clear p3 p5
        go_wp2_with fail
        refine (spec_l4Same a.steps [S] _ _ _ (HXA.out _ (Y.out.alloc Y.out.size _)) (ints_one _ _ (by first | exact HS64.out | exact HW64.out)) (by omega) (by simp)).mono ?_; rintro e x1 ⟨rfl, m1, hx1⟩; rw [F1.out]; have Y := hidI (show Below w2.heap.size w2 x1 by rw [hx1]; exact (Y.out.alloc Y.out.size (.cells #[.int .i64 S] 3)).trans ((bdraw _ m1).mono (by have := Y.out.size; first | omega | (simp; done) | (simp; omega)))); clear hx1
        go_wp2_with fail
        refine (spec_l4Same b.steps [S] _ _ _ (HXB.out _ (Y.out.alloc Y.out.size _)) (ints_one _ _ (by first | exact HS64.out | exact HW64.out)) (by omega) (by simp)).mono ?_; rintro e x2 ⟨rfl, m2, hx2⟩; rw [F2.out]; have Y := hidI (show Below w2.heap.size w2 x2 by rw [hx2]; exact (Y.out.alloc Y.out.size (.cells #[.int .i64 S] 3)).trans ((bdraw _ m2).mono (by have := Y.out.size; first | omega | (simp; done) | (simp; omega)))); clear hx2
        go_wp2_with fail
        refine (spec_l4Same a.steps [W] _ _ _ (HXA.out _ (Y.out.alloc Y.out.size _)) (ints_one _ _ (by first | exact HS64.out | exact HW64.out)) (by omega) (by simp)).mono ?_; rintro e x3 ⟨rfl, m3, hx3⟩; rw [F3.out]; have Y := hidI (show Below w2.heap.size w2 x3 by rw [hx3]; exact (Y.out.alloc Y.out.size (.cells #[.int .i64 W] 3)).trans ((bdraw _ m3).mono (by have := Y.out.size; first | omega | (simp; done) | (simp; omega)))); clear hx3
        go_wp2_with fail
        refine (spec_l4Same a.steps b.steps _ _ _ (HXA.out _ Y.out) (HXB.out _ Y.out) (by omega) (by omega)).mono ?_; rintro e x4 ⟨rfl, m4, hx4⟩; rw [F4.out]; have Y := hidI (show Below w2.heap.size w2 x4 by rw [hx4]; exact Y.out.trans ((bdraw _ m4).mono Y.out.size)); clear hx4
        go_wp2_with fail
        go_ret
        exact ⟨_, rfl, by rw [HV.out]; exact own_below OB.out Y.out, YB.out.trans (Y.out.mono YB.out.size)⟩
      have F4 := hidI (decide_eq_false p5)
      have P5 := hidI p5
      clear p3 p5
      by_cases p4 : b.steps = [W]
      · have HV : Hid ((smpTwo s a b).steps = a.steps) := hidI (by rw [HT.out.2.2.1 P12.out P3.out ((const_iff HKB.out HW6.out).1 p4)])
        have F5 := hidI (decide_eq_true p4); clear p4
        go_wp2_with fail
        refine (spec_l4Same a.steps [S] _ _ _ (HXA.out _ (Y.out.alloc Y.out.size _)) (ints_one _ _ (by first | exact HS64.out | exact HW64.out)) (by omega) (by simp)).mono ?_; rintro e x1 ⟨rfl, m1, hx1⟩; rw [F1.out]; have Y := hidI (show Below w2.heap.size w2 x1 by rw [hx1]; exact (Y.out.alloc Y.out.size (.cells #[.int .i64 S] 3)).trans ((bdraw _ m1).mono (by have := Y.out.size; first | omega | (simp; done) | (simp; omega)))); clear hx1
        go_wp2_with fail
        refine (spec_l4Same b.steps [S] _ _ _ (HXB.out _ (Y.out.alloc Y.out.size _)) (ints_one _ _ (by first | exact HS64.out | exact HW64.out)) (by omega) (by simp)).mono ?_; rintro e x2 ⟨rfl, m2, hx2⟩; rw [F2.out]; have Y := hidI (show Below w2.heap.size w2 x2 by rw [hx2]; exact (Y.out.alloc Y.out.size (.cells #[.int .i64 S] 3)).trans ((bdraw _ m2).mono (by have := Y.out.size; first | omega | (simp; done) | (simp; omega)))); clear hx2
        go_wp2_with fail
        refine (spec_l4Same a.steps [W] _ _ _ (HXA.out _ (Y.out.alloc Y.out.size _)) (ints_one _ _ (by first | exact HS64.out | exact HW64.out)) (by omega) (by simp)).mono ?_; rintro e x3 ⟨rfl, m3, hx3⟩; rw [F3.out]; have Y := hidI (show Below w2.heap.size w2 x3 by rw [hx3]; exact (Y.out.alloc Y.out.size (.cells #[.int .i64 W] 3)).trans ((bdraw _ m3).mono (by have := Y.out.size; first | omega | (simp; done) | (simp; omega)))); clear hx3
        go_wp2_with fail
        refine (spec_l4Same a.steps b.steps _ _ _ (HXA.out _ Y.out) (HXB.out _ Y.out) (by omega) (by omega)).mono ?_; rintro e x4 ⟨rfl, m4, hx4⟩; rw [F4.out]; have Y := hidI (show Below w2.heap.size w2 x4 by rw [hx4]; exact Y.out.trans ((bdraw _ m4).mono Y.out.size)); clear hx4
        go_wp2_with fail
        refine (spec_l4Same b.steps [W] _ _ _ (HXB.out _ (Y.out.alloc Y.out.size _)) (ints_one _ _ (by first | exact HS64.out | exact HW64.out)) (by omega) (by simp)).mono ?_; rintro e x5 ⟨rfl, m5, hx5⟩; rw [F5.out]; have Y := hidI (show Below w2.heap.size w2 x5 by rw [hx5]; exact (Y.out.alloc Y.out.size (.cells #[.int .i64 W] 3)).trans ((bdraw _ m5).mono (by have := Y.out.size; first | omega | (simp; done) | (simp; omega)))); clear hx5
        go_wp2_with fail
        go_ret
        exact ⟨_, rfl, by rw [HV.out]; exact own_below OA.out Y.out, YB.out.trans (Y.out.mono YB.out.size)⟩
      · have HV : Hid ((smpTwo s a b).steps = a.steps ++ b.steps ++ [s]) := hidI (by rw [HT.out.2.2.2.2 P12.out P3.out (fun h => p4 ((const_iff HKB.out HW6.out).2 h)) P5.out]; rfl)
        have F5 := hidI (decide_eq_false p4); clear p4
        go_wp2_with fail
        refine (spec_l4Same a.steps [S] _ _ _ (HXA.out _ (Y.out.alloc Y.out.size _)) (ints_one _ _ (by first | exact HS64.out | exact HW64.out)) (by omega) (by simp)).mono ?_; rintro e x1 ⟨rfl, m1, hx1⟩; rw [F1.out]; have Y := hidI (show Below w2.heap.size w2 x1 by rw [hx1]; exact (Y.out.alloc Y.out.size (.cells #[.int .i64 S] 3)).trans ((bdraw _ m1).mono (by have := Y.out.size; first | omega | (simp; done) | (simp; omega)))); clear hx1
        go_wp2_with fail
        refine (spec_l4Same b.steps [S] _ _ _ (HXB.out _ (Y.out.alloc Y.out.size _)) (ints_one _ _ (by first | exact HS64.out | exact HW64.out)) (by omega) (by simp)).mono ?_; rintro e x2 ⟨rfl, m2, hx2⟩; rw [F2.out]; have Y := hidI (show Below w2.heap.size w2 x2 by rw [hx2]; exact (Y.out.alloc Y.out.size (.cells #[.int .i64 S] 3)).trans ((bdraw _ m2).mono (by have := Y.out.size; first | omega | (simp; done) | (simp; omega)))); clear hx2
        go_wp2_with fail
        refine (spec_l4Same a.steps [W] _ _ _ (HXA.out _ (Y.out.alloc Y.out.size _)) (ints_one _ _ (by first | exact HS64.out | exact HW64.out)) (by omega) (by simp)).mono ?_; rintro e x3 ⟨rfl, m3, hx3⟩; rw [F3.out]; have Y := hidI (show Below w2.heap.size w2 x3 by rw [hx3]; exact (Y.out.alloc Y.out.size (.cells #[.int .i64 W] 3)).trans ((bdraw _ m3).mono (by have := Y.out.size; first | omega | (simp; done) | (simp; omega)))); clear hx3
        go_wp2_with fail
        refine (spec_l4Same a.steps b.steps _ _ _ (HXA.out _ Y.out) (HXB.out _ Y.out) (by omega) (by omega)).mono ?_; rintro e x4 ⟨rfl, m4, hx4⟩; rw [F4.out]; have Y := hidI (show Below w2.heap.size w2 x4 by rw [hx4]; exact Y.out.trans ((bdraw _ m4).mono Y.out.size)); clear hx4
        go_wp2_with fail
        refine (spec_l4Same b.steps [W] _ _ _ (HXB.out _ (Y.out.alloc Y.out.size _)) (ints_one _ _ (by first | exact HS64.out | exact HW64.out)) (by omega) (by simp)).mono ?_; rintro e x5 ⟨rfl, m5, hx5⟩; rw [F5.out]; have Y := hidI (show Below w2.heap.size w2 x5 by rw [hx5]; exact (Y.out.alloc Y.out.size (.cells #[.int .i64 W] 3)).trans ((bdraw _ m5).mono (by have := Y.out.size; first | omega | (simp; done) | (simp; omega)))); clear hx5
        have hsz := Y.out.size
        have HYW := hidI (YB.out.trans (Y.out.mono YB.out.size))
        go_wp2_with (at_builtin; refine wpList_appendS _ rfl _ _ 24 rfl w2.heap.size 3 Try.underlying24 infoInt (.slice (some ⟨_, 0, none⟩) 0 0) 0 [] (.slice (some ⟨ga, 0, none⟩) a.steps.length ca) a.steps rfl rfl (own_made rfl hsz _) (HXA.out _ (Y.out.alloc hsz _)) (by omega) (by simp; omega) ?_)
        intro x1 z1 r1 hb1 _ hn1
        obtain ⟨g1, d1, rfl, -⟩ := own_addr r1 (by have := steps_ne a; omega)
        (try simp only [Nat.zero_add, List.nil_append] at r1)
        have Y1 := hidI (hb1 _ (Y.out.alloc hsz _))
        have R1 := hidI r1; clear r1 hb1 hn1
        have hs1 := Y1.out.size
        go_wp2_with (at_builtin; refine wpList_appendS _ rfl _ _ 24 rfl w2.heap.size 3 Try.underlying24 infoInt (.slice (some ⟨g1, 0, none⟩) a.steps.length d1) a.steps.length a.steps (.slice (some ⟨gb, 0, none⟩) b.steps.length cb) b.steps rfl rfl R1.out (HXB.out _ Y1.out) (by omega) hs1 ?_)
        intro x2 z2 r2 hb2 _ hn2
        obtain ⟨g2, d2, rfl, -⟩ := own_addr r2 (by have := steps_ne a; omega)
        have Y2 := hidI (hb2 _ Y1.out)
        have R2 := hidI r2; clear r2 hb2 hn2
        have hs2 := Y2.out.size
        go_wp2_with (at_builtin; refine wpList_push _ rfl _ _ 24 rfl w2.heap.size 3 (.int .i64 0) 8 Try.underlying24 infoInt rfl (.slice (some ⟨g2, 0, none⟩) (a.steps.length + b.steps.length) d2) (a.steps.length + b.steps.length) ((a.steps ++ b.steps).map (Value.int .i64)) _ rfl rfl (by rw [List.map_append]; exact R2.out) rfl (by omega) (by decide) hs2 ?_)
        intro g3 d3 z3 hg3 r3 hb3 _
        have Y3 := hidI (hb3 _ Y2.out)
        have R3 := hidI r3; clear r3 hb3
        go_wp2_with fail
        go_ret
        refine ⟨_, rfl, ?_, YB.out.trans (Y3.out.mono YB.out.size)⟩
        rw [HV.out]
        have := own_base R3.out (base' := w.heap.size) YB.out.size
        simpa [Nat.add_assoc] using this
end Go.Proofs.Ytnalhgknjnaliaa
