/- The draws of the groups' laws: DrawWordPerm, DrawGroupHas, DrawWordFor. -/
import Derived.Test.YtmmggbcmailbiaaGDX
namespace Go.Proofs.Ytmmggbcmailbiaa
open Go.ChangeShapes Go.WideShapes Go.ChangeAt Go.RowKit Grp

/-- A slice that is nil or starts its block. -/
def RowV (v : Value) (n : Nat) : Prop := v = .slice none 0 0 ∨ ∃ g cap, v = .slice (some ⟨g, 0, none⟩) n cap
theorem rowV_of {w : World} {base : Nat} {e : TypeId} {v : Value} {n : Nat} {xs : List Value} (h : w.ownsRow base e 1 v n xs) : RowV v n := by
  rcases h.2 with ⟨h1, _⟩ | ⟨g, cap, cur, h1, h2, _⟩
  · exact .inl h1
  · exact .inr ⟨g, cap, h1⟩

/-- A number of places, generators, and a list of numbers. -/
def DrawnL (w w' : World) (e : Ending) : Prop := ∃ (q : Int) (g c : Nat) (us : List Value) (pss : List (List Int)) (v : Value) (zs : List Int), e = .returned (.tuple #[.int .i64 q, .slice (some ⟨g, 0, none⟩) pss.length c, v]) ∧ 0 ≤ q ∧ q ≤ 5 ∧ pss.length ≤ 6 ∧ (∀ p ∈ pss, p.length ≤ 4000000) ∧
  RowsOwn w' w.heap.size (.slice (some ⟨g, 0, none⟩) pss.length c) us pss ∧ El w' v zs ∧ RowV v zs.length ∧ zs.length ≤ 300 ∧ Below w.heap.size w w'

set_option maxRecDepth 100000 in
set_option maxHeartbeats 4000000 in
theorem spec_DrawWordPerm (n : Nat) (v : Value) (w0 : World) (h : BytS w0 w0.heap.size v n) :
    Calls Try.prog 50 #[v] w0 fun e w' => DrawnL w0 w' e := by
  obtain ⟨bao, bcap, hv⟩ : ∃ ao cap, v = .slice ao n cap := by obtain ⟨ao, cap, h1, _⟩ := h; exact ⟨ao, cap, h1⟩
  subst hv
  have HV := hidI h; clear h
  go_enter Try.func50, Try.ntmps50
  go_wp2_with fail
  refine (spec_l20Open n _ w0 HV.out).mono ?_; rintro e w1 ⟨rfl, hr, b1⟩
  have hlt0 := hr.lt
  obtain ⟨r, hrr⟩ : ∃ r, r = w0.heap.size := ⟨_, rfl⟩
  rw [← hrr] at hr hlt0 ⊢
  have HR := hidI hr; have B1 := hidI b1; have HRR := hidI hrr; clear hr b1 hrr HV
  go_wp2_with fail
  refine (spec_l20Moves r 0 12 w1 HR.out (by omega) (by omega) (by omega)).mono ?_; rintro e w ⟨q, g0, c0, us, pss, rfl, h1, h2, h3, h4, h5, h6, h7⟩
  have RO := hidI h5; have R2 := hidI h6; have G2 := hidI h7
  have HL := hidI (show ∀ p ∈ pss, p.length ≤ 4000000 from fun p hp => by have := h4 p hp; omega)
  have hlt : r < w.heap.size := h6.lt
  have hgl := h5.lt rfl
  clear h4 h5 h6 h7 HR
  have HO := hidI (OutS.new (w := w) (base := w.heap.size) [] (by simp) (Nat.le_refl _) (by simp))
  have HR := hidI (R2.out.below ((Below.refl _ _).alloc (Nat.le_refl _) (.cells #[] 3)))
  have HG := hidI (grown_alloc w (.cells #[] 3) (some r))
  obtain ⟨-, -, hgc, hcm⟩ := hgl
  unfold maxLen at hcm
  go_wp2_with fail
  obtain ⟨wa, hwa⟩ : ∃ wa, wa = w.alloc (.cells #[] 3) := ⟨_, rfl⟩
  obtain ⟨gg, hgg⟩ : ∃ gg, gg = w.heap.size := ⟨_, rfl⟩
  have HO := hidI (show OutS wa w.heap.size gg 0 0 by rw [hwa, hgg]; exact HO.out)
  have HR := hidI (show RdOk wa r 200 by rw [hwa]; exact HR.out)
  have HG := hidI (show w.grownBy wa (some r) by rw [hwa]; exact HG.out)
  rw [← hwa, ← hgg]; clear hwa hgg
  refine (spec_pickI r 200 9 _ HR.out (by omega) (by omega) (by omega)).mono ?_; rintro e w2 ⟨K, rfl, hK, rK, gK⟩
  have HO := hidI (HO.out.grown gK hlt); have HR := hidI rK; have HG := hidI (grown_trans HG.out gK); clear gK rK
  go_wp2_with fail
  go_loopw [8, 9] (fun t i wr => ∃ k n g cap M : Nat, k ≤ K ∧ i = .int .i64 k ∧ t = .slice (some ⟨g, 0, none⟩) n cap ∧ n + k ≤ 9 ∧ M + k ≤ 300 ∧ Hid (OutS wr w.heap.size g n cap) ∧ Hid (RdOk wr r M) ∧ Hid (w.grownBy wr (some r))) (fun _ i _ => (intOf i).toNat)
  case atStart => exact ⟨K, 0, gg, 0, 201, by omega, rfl, rfl, by omega, by omega, HO, HR, HG⟩
  case round =>
    clear HO HR HG
    obtain ⟨k, n, g, cap, M, hk, rfl, rfl, hn, hM, HO, HR, HG⟩ := hrel
    rcases Nat.eq_zero_or_pos k with rfl | hk1
    rotate_left
    · have hk2 : (0 : Int) < k := by omega
      go_wp2_with fail
      all_goals (
        refine (spec_pickI r M _ _ HR.out (by omega) (by omega) (by omega)).mono ?_; rintro e w3 ⟨k3, rfl, hk3, r3, g3⟩
        have HO := hidI (HO.out.grown g3 hlt); have HR := hidI r3; have HG := hidI (grown_trans HG.out g3); clear r3 g3
        have hk4 : (k3 : Int) < 1000000 := by omega
        clear hk3
        have hgl := HO.out.lt.1
        have HU : Hid (IntS (w3.alloc (.cells #[.int .i64 (k3 : Int)] 3)) (.slice (some ⟨w3.heap.size, 0, none⟩) 1 1) [(k3 : Int)]) := ints_new w3 [(k3 : Int)] (i64_one (i64_small hk4)) (by simp)
        have hbs : w.heap.size ≤ (w3.alloc (.cells #[.int .i64 (k3 : Int)] 3)).heap.size := by have := HG.out.size; simp; omega
        have hns : n + 1 ≤ 100000 := by omega
        go_wp2_with (at_builtin; refine wpList_appendO _ rfl _ _ rfl w.heap.size _ n _ _ [(k3 : Int)] rfl rfl (HO.out.alloc _) HU.out hns hbs ?_)
        intro n2 g' cap' w' hn1 hn2 ho' hg'
        (try simp only [List.length_cons, List.length_nil, Nat.zero_add] at hn1 hn2)
        have HR := hidI ((HR.out.below ((Below.refl _ _).alloc (Nat.le_refl _) (.cells #[.int .i64 (k3 : Int)] 3))).grown hg' (by omega)); have HG := hidI (grown_new (grown_trans HG.out (grown_alloc _ (.cells #[.int .i64 (k3 : Int)] 3) _)) hg' hgl)
        have HO := hidI ho'; clear ho' hg' HU hbs hns hgl
        go_wp2_with fail
        go_roundw
        case rel => exact ⟨k - 1, n2, _, _, M + 1, by omega, by go_num, rfl, by omega, by omega, HO, HR, HG⟩
        case measure => simp [intOf]; omega)
    go_wp2_with fail
    refine (spec_odd r M 14 _ HR.out (by omega) (by omega) (by omega)).mono ?_; rintro e wo ⟨b, rfl, ro, go, _⟩
    have HO := hidI (HO.out.grown go hlt); have HR := hidI ro; have HG := hidI (grown_trans HG.out go); clear ro go
    cases b
    · go_wp2_with fail
      go_ret3
      obtain ⟨zs, hz, he⟩ := HO.out.el
      exact ⟨q, g0, c0, us, pss, _, zs, rfl, h1, h2, h3, HL.out, (RO.out.reader R2.out hlt0 HG.out).base B1.out.size, he, .inr ⟨_, _, by rw [hz]; rfl⟩, by omega, B1.out.grown (grown_trans G2.out HG.out) B1.out.size (fun k hk => by cases hk; exact Nat.le_of_eq HRR.out.symm)⟩
    have hpi : (pss.length : Int) < 1000000 := by omega
    have hgl := HO.out.lt.1
    have HU : Hid (IntS (wo.alloc (.cells #[.int .i64 (pss.length : Int)] 3)) (.slice (some ⟨wo.heap.size, 0, none⟩) 1 1) [(pss.length : Int)]) := ints_new wo [(pss.length : Int)] (i64_one (i64_small hpi)) (by simp)
    have hbs : w.heap.size ≤ (wo.alloc (.cells #[.int .i64 (pss.length : Int)] 3)).heap.size := by have := HG.out.size; simp; omega
    have hns : n + 1 ≤ 100000 := by omega
    go_wp2_with (at_builtin; refine wpList_appendO _ rfl _ _ rfl w.heap.size _ n _ _ [(pss.length : Int)] rfl rfl (HO.out.alloc _) HU.out hns hbs ?_)
    intro n2 g' cap' w' hn1 hn2 ho' hg'
    (try simp only [List.length_cons, List.length_nil, Nat.zero_add] at hn1 hn2)
    have HR := hidI ((HR.out.below ((Below.refl _ _).alloc (Nat.le_refl _) (.cells #[.int .i64 (pss.length : Int)] 3))).grown hg' (by omega)); have HG := hidI (grown_new (grown_trans HG.out (grown_alloc _ (.cells #[.int .i64 (pss.length : Int)] 3) _)) hg' hgl)
    have HO := hidI ho'; clear ho' hg' HU hbs hns hgl
    go_wp2_with fail
    go_ret3
    obtain ⟨zs, hz, he⟩ := HO.out.el
    exact ⟨q, g0, c0, us, pss, _, zs, rfl, h1, h2, h3, HL.out, (RO.out.reader R2.out hlt0 HG.out).base B1.out.size, he, .inr ⟨_, _, by rw [hz]; rfl⟩, by omega, B1.out.grown (grown_trans G2.out HG.out) B1.out.size (fun k hk => by cases hk; exact Nat.le_of_eq HRR.out.symm)⟩

theorem wpOf_facts (places : Int) (pss : List (List Int)) (zs : List Int) : (wpOf places pss zs).length ≤ 5 ∧ ∀ z ∈ wpOf places pss zs, I64 z := by
  cases hm : mvalid places pss
  · rw [wpOf_no zs hm]; exact ⟨by simp, by simp⟩
  · obtain ⟨n, qs, rfl, h1, h5, rfl, h3, hok⟩ := (mvalid_iff _ _).1 hm
    cases hw : wordsIn qs zs
    · have e : wpOf (n : Int) (qs.map up) zs = [] := by
        unfold wpOf; rw [toP_ups, hw]; simp
      rw [e]; exact ⟨by simp, by simp⟩
    · rw [wpOf_valid h1 h5 h3 hok hw]
      have hin : ∀ z ∈ zs, inP (qs.length : Int) z = true := by
        unfold wordsIn at hw; rw [List.all_eq_true] at hw; exact hw
      have hp := (wordP_isP (n := n) (wordsIn_nat hin)).isP hok
      exact ⟨by rw [up_len, hp.len]; exact h5, up_I64 hp h5⟩

set_option maxRecDepth 100000 in
set_option maxHeartbeats 4000000 in
theorem spec_DrawGroupHas (n : Nat) (v : Value) (w0 : World) (h : BytS w0 w0.heap.size v n) :
    Calls Try.prog 25 #[v] w0 fun e w' => DrawnL w0 w' e := by
  obtain ⟨bao, bcap, hv⟩ : ∃ ao cap, v = .slice ao n cap := by obtain ⟨ao, cap, h1, _⟩ := h; exact ⟨ao, cap, h1⟩
  subst hv
  have HV := hidI h; clear h
  go_enter Try.func25, Try.ntmps25
  go_wp2_with fail
  refine (spec_l20Open n _ w0 HV.out).mono ?_; rintro e w1 ⟨rfl, hr, b1⟩
  have hlt0 := hr.lt
  obtain ⟨r, hrr⟩ : ∃ r, r = w0.heap.size := ⟨_, rfl⟩
  rw [← hrr] at hr hlt0 ⊢
  have HR := hidI hr; have B1 := hidI b1; have HRR := hidI hrr; clear hr b1 hrr HV
  go_wp2_with fail
  refine (spec_l20Moves r 0 12 w1 HR.out (by omega) (by omega) (by omega)).mono ?_; rintro e w ⟨q0, g0, c0, us, pss, rfl, h1, h2, h3, h4, h5, h6, h7⟩
  have RO := hidI h5; have R2 := hidI h6; have G2 := hidI h7
  have HL := hidI (show ∀ p ∈ pss, p.length ≤ 4000000 from fun p hp => by have := h4 p hp; omega)
  have hlt : r < w.heap.size := h6.lt
  have hgl := h5.lt rfl
  clear h4 h5 h6 h7 HR
  obtain ⟨-, -, hgc, hcm⟩ := hgl
  unfold maxLen at hcm
  obtain ⟨q, rfl⟩ := Int.eq_ofNat_of_zero_le h1
  have hq5 : q ≤ 5 := by omega
  go_wp2_with fail
  all_goals (
    first | go_fit (spec_l20Perm r 200 1 14 _ R2.out (by omega) (by omega) (by omega) (by omega)) | go_fit (spec_l20Perm r 200 q 14 _ R2.out (by omega) (by omega) (by omega) (by omega))
    rintro e w2 ⟨gp, np, cp, rfl, hnp, -, op, r2, g2⟩
    have OP := hidI op; have HR := hidI (r2.mono (show _ ≤ 310 by omega)); have HG := hidI g2
    clear op r2 g2
    cases hmv : mvalid (q : Int) pss
    · have HMV := hidI hmv; clear hmv
      go_wp2_with fail
      refine (spec_MovesValid (q : Int) pss _ w2 (RO.out.reader R2.out hlt0 HG.out).reads HL.out).mono ?_; rintro e w3 ⟨rfl, n3, hw3⟩; rw [HMV.out]
      have b3 : Below w2.heap.size w2 w3 := by rw [hw3]; exact bdraw _ _
      have OP := hidI (OP.out.below b3); have HG := hidI (grown_then HG.out b3)
      clear hw3 b3
      go_wp2_with fail
      go_ret3
      obtain ⟨zs, hz, he⟩ := OP.out.el
      exact ⟨q, g0, c0, us, pss, _, zs, rfl, h1, h2, h3, HL.out, (RO.out.reader R2.out hlt0 HG.out).base B1.out.size, he, .inr ⟨_, _, by rw [hz]; rfl⟩, by omega, B1.out.grown (grown_trans G2.out HG.out) B1.out.size (fun k hk => by cases hk; exact Nat.le_of_eq HRR.out.symm)⟩
    have HMV := hidI hmv; clear hmv
    go_wp2_with fail
    refine (spec_MovesValid (q : Int) pss _ w2 (RO.out.reader R2.out hlt0 HG.out).reads HL.out).mono ?_; rintro e w3 ⟨rfl, n3, hw3⟩; rw [HMV.out]
    have b3 : Below w2.heap.size w2 w3 := by rw [hw3]; exact bdraw _ _
    have OP := hidI (OP.out.below b3); have HG := hidI (grown_then HG.out b3); have HR := hidI (HR.out.below b3)
    clear hw3 b3
    by_cases hp0 : pss.length = 0
    · obtain rfl : pss = [] := List.eq_nil_of_length_eq_zero hp0
      go_wp2_with fail
      go_ret3
      obtain ⟨zs, hz, he⟩ := OP.out.el
      exact ⟨q, g0, c0, us, [], _, zs, rfl, h1, h2, h3, HL.out, (RO.out.reader R2.out hlt0 HG.out).base B1.out.size, he, .inr ⟨_, _, by rw [hz]; rfl⟩, by omega, B1.out.grown (grown_trans G2.out HG.out) B1.out.size (fun k hk => by cases hk; exact Nat.le_of_eq HRR.out.symm)⟩
    have hpI : (0 : Int) < (pss.length : Int) := by omega
    go_wp2_with fail
    refine (spec_pickI r 310 2 _ HR.out (by omega) (by omega) (by omega)).mono ?_; rintro e w4 ⟨k4, rfl, hk4, r4, g4⟩
    have OP := hidI (OP.out.grown g4 hlt); have HR := hidI r4; have HG := hidI (grown_trans HG.out g4); clear r4 g4
    by_cases k40 : k4 = 0
    rotate_left
    · have e0 : ((k4 : Int) == 0) = false := by simp; omega
      clear k40 hk4
      go_wp2_with fail
      go_ret3
      obtain ⟨zs, hz, he⟩ := OP.out.el
      exact ⟨q, g0, c0, us, pss, _, zs, rfl, h1, h2, h3, HL.out, (RO.out.reader R2.out hlt0 HG.out).base B1.out.size, he, .inr ⟨_, _, by rw [hz]; rfl⟩, by omega, B1.out.grown (grown_trans G2.out HG.out) B1.out.size (fun k hk => by cases hk; exact Nat.le_of_eq HRR.out.symm)⟩
    subst k40
    have HO := hidI (OutS.new (w := w4) (base := w.heap.size) [] (by simp) HG.out.size (by simp))
    have HR := hidI (HR.out.below ((Below.refl _ _).alloc (Nat.le_refl _) (.cells #[] 3)))
    have HG := hidI (grown_trans HG.out (grown_alloc w4 (.cells #[] 3) (some r)))
    clear hk4
    go_wp2_with fail
    obtain ⟨wa, hwa⟩ : ∃ wa, wa = w4.alloc (.cells #[] 3) := ⟨_, rfl⟩
    obtain ⟨gg, hgg⟩ : ∃ gg, gg = w4.heap.size := ⟨_, rfl⟩
    have HO := hidI (show OutS wa w.heap.size gg 0 0 by rw [hwa, hgg]; exact HO.out)
    have HR := hidI (show RdOk wa r 311 by rw [hwa]; exact HR.out)
    have HG := hidI (show w.grownBy wa (some r) by rw [hwa]; exact HG.out)
    rw [← hwa, ← hgg]; clear hwa hgg OP
    refine (spec_pickI r 311 7 _ HR.out (by omega) (by omega) (by omega)).mono ?_; rintro e w5 ⟨K, rfl, hK, rK, gK⟩
    have HO := hidI (HO.out.grown gK hlt); have HR := hidI rK; have HG := hidI (grown_trans HG.out gK); clear gK rK
    go_wp2_with fail
    go_loopw [9, 10] (fun t i wr => ∃ k n g cap M : Nat, k ≤ K ∧ i = .int .i64 k ∧ t = .slice (some ⟨g, 0, none⟩) n cap ∧ n + k ≤ 7 ∧ M + k ≤ 400 ∧ Hid (OutS wr w.heap.size g n cap) ∧ Hid (RdOk wr r M) ∧ Hid (w.grownBy wr (some r))) (fun _ i _ => (intOf i).toNat)
    case atStart => exact ⟨K, 0, gg, 0, 312, by omega, rfl, rfl, by omega, by omega, HO, HR, HG⟩
    case round =>
      clear HO HR HG
      obtain ⟨k, n, g, cap, M, hk, rfl, rfl, hn, hM, HO, HR, HG⟩ := hrel
      rcases Nat.eq_zero_or_pos k with rfl | hk1
      rotate_left
      · have hk2 : (0 : Int) < k := by omega
        go_wp2_with fail
        refine (spec_pickI r M (pss.length : Int) _ HR.out (by omega) (by omega) (by omega)).mono ?_; rintro e w3 ⟨k3, rfl, hk3, r3, g3⟩
        have HO := hidI (HO.out.grown g3 hlt); have HR := hidI r3; have HG := hidI (grown_trans HG.out g3); clear r3 g3
        have hk4 : (k3 : Int) < 1000000 := by omega
        clear hk3
        have hgl := HO.out.lt.1
        have HU : Hid (IntS (w3.alloc (.cells #[.int .i64 (k3 : Int)] 3)) (.slice (some ⟨w3.heap.size, 0, none⟩) 1 1) [(k3 : Int)]) := ints_new w3 [(k3 : Int)] (i64_one (i64_small hk4)) (by simp)
        have hbs : w.heap.size ≤ (w3.alloc (.cells #[.int .i64 (k3 : Int)] 3)).heap.size := by have := HG.out.size; simp; omega
        have hns : n + 1 ≤ 100000 := by omega
        go_wp2_with (at_builtin; refine wpList_appendO _ rfl _ _ rfl w.heap.size _ n _ _ [(k3 : Int)] rfl rfl (HO.out.alloc _) HU.out hns hbs ?_)
        intro n2 g' cap' w' hn1 hn2 ho' hg'
        (try simp only [List.length_cons, List.length_nil, Nat.zero_add] at hn1 hn2)
        have HR := hidI ((HR.out.below ((Below.refl _ _).alloc (Nat.le_refl _) (.cells #[.int .i64 (k3 : Int)] 3))).grown hg' (by omega)); have HG := hidI (grown_new (grown_trans HG.out (grown_alloc _ (.cells #[.int .i64 (k3 : Int)] 3) _)) hg' hgl)
        have HO := hidI ho'; clear ho' hg' HU hbs hns hgl
        go_wp2_with fail
        go_roundw
        case rel => exact ⟨k - 1, n2, _, _, M + 1, by omega, by go_num, rfl, by omega, by omega, HO, HR, HG⟩
        case measure => simp [intOf]; omega
      obtain ⟨ys, hys, iy⟩ := HO.out.ints
      have IY := hidI iy; clear iy
      go_wp2_with fail
      refine (spec_WordPermA (q : Int) pss ys _ _ wr (RO.out.reader R2.out hlt0 HG.out).reads IY.out HL.out (by omega)).mono ?_; rintro e w6 ⟨v6, rfl, o6, b6⟩
      have E6 := hidI (El.ofOwn o6 (wpOf_facts (q : Int) pss ys).2)
      have RV6 := hidI (rowV_of o6); have B6 := hidI b6; clear o6 b6
      go_wp2_with fail
      go_ret3
      exact ⟨q, g0, c0, us, pss, v6, _, rfl, h1, h2, h3, HL.out, ((RO.out.reader R2.out hlt0 HG.out).below B6.out).base B1.out.size, E6.out, RV6.out, by have := (wpOf_facts (q : Int) pss ys).1; omega, bthen (B1.out.grown (grown_trans G2.out HG.out) B1.out.size (fun k hk => by cases hk; exact Nat.le_of_eq HRR.out.symm)) B6.out⟩)

theorem spec_DrawWordFor (n : Nat) (v : Value) (w : World) (h : BytS w w.heap.size v n) :
    Calls Try.prog 16 #[v] w fun e w' => DrawnL w w' e := by
  obtain ⟨bao, bcap, hv⟩ : ∃ ao cap, v = .slice ao n cap := by obtain ⟨ao, cap, h1, _⟩ := h; exact ⟨ao, cap, h1⟩
  subst hv
  have HV := hidI h; clear h
  go_enter Try.func16, Try.ntmps16
  go_wp2_with fail
  refine (spec_DrawGroupHas n _ w HV.out).mono ?_; rintro e w1 ⟨q, g, c, us, pss, u, zs, rfl, h1, h2, h3, h4, h5, h6, h7, h8, h9⟩
  have HD := hidI (show DrawnL w w1 (.returned (.tuple #[.int .i64 q, .slice (some ⟨g, 0, none⟩) pss.length c, u])) from ⟨q, g, c, us, pss, u, zs, rfl, h1, h2, h3, h4, h5, h6, h7, h8, h9⟩)
  clear h1 h2 h3 h4 h5 h6 h7 h8 h9
  go_wp2_with fail
  go_ret3
  exact HD.out
end Go.Proofs.Ytmmggbcmailbiaa
