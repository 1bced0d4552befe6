/- The laws' helpers on groups: hasList, sameLists; the draws of generators. -/
import Derived.Test.YtmmggbcmailbiaaGD
import Derived.Test.YtmmggbcmailbiaaLawH
import Derived.Test.YtmmggbcmailbiaaOpenB
import Derived.Test.YtmmggbcmailbiaaAlive
import Derived.Deep.DeepFit
import Derived.Deep.QuietTactic
import Derived.BigQuiet
namespace Go.Proofs.Ytmmggbcmailbiaa
open Go.ChangeShapes Go.WideShapes Go.ChangeAt Go.RowKit Grp

set_option maxHeartbeats 1000000 in
theorem laws_hasList (pss : List (List Int)) (ps : List Int) (v u : Value) (w : World) (hv : IntSS w v pss) (hu : IntS w u ps) :
    Calls Try.prog 27 #[v, u] w fun e w' => e = .returned (.bool (decide (ps ∈ pss))) ∧ ∃ n, w' = w.drewN n := by
  obtain ⟨ao, cap, rfl, c1, c2, c3⟩ := hv
  unfold maxLen at c2
  obtain ⟨_, uo, ucap, hu1, _⟩ := id hu
  subst hu1
  rcases c3 with ⟨rfl, _⟩ | ⟨b, off, rfl, hb, hc⟩
  · show Calls Try.prog 27 #[.slice ao 0 cap, _] w _
    go_enter Try.func27, Try.ntmps27
    go_wp2_with fail
    refine wp_loop_rounds 1 ?_
    rw [rounds_succ]
    go_wp2_with fail
    go_ret
    exact ⟨rfl, 0, rfl⟩
  have Hc := hidI hc; have HU := hidI hu
  clear hc hu
  go_enter Try.func27, Try.ntmps27
  go_wp2_with fail
  go_loopw [5] (fun i wr => ∃ (k m : Nat), k ≤ pss.length ∧ i = .int .i64 k ∧ Hid (ps ∉ pss.take k) ∧ Hid (wr = w.drewN m)) (fun i _ => pss.length - (intOf i).toNat)
  case atStart => exact ⟨0, 0, by omega, rfl, hidI (by simp), hidI rfl⟩
  case round =>
    obtain ⟨k, m, hk, rfl, HE, HW⟩ := hrel
    by_cases hlt : k < pss.length
    · have hkI : (k : Int) < (pss.length : Int) := by omega
      obtain ⟨q, hq⟩ : ∃ q, pss[k]? = some q := ⟨_, List.getElem?_eq_getElem hlt⟩
      obtain ⟨x, hcx, hx⟩ := Hc.out k q hq
      have e1 : wr.cell? ⟨b, off + k, none⟩ = some x := by rw [HW.out]; exact hcx
      have HX := hidI (show IntS wr x q by rw [HW.out]; exact hx.below (bdraw w m))
      have HUw := hidI (show IntS wr (.slice uo ps.length ucap) ps by rw [HW.out]; exact HU.out.below (bdraw w m))
      have hx' := hx
      obtain ⟨_, xo, xc, rfl, _⟩ := hx'
      by_cases he : q = ps
      · have HF := hidI (decide_eq_true (show ps ∈ pss from he ▸ List.mem_of_getElem? hq))
        have HD := hidI (decide_eq_true he)
        clear he hq hcx hx
        go_wp2_with fail
        refine (sameInts_any q ps _ _ _ HX.out HUw.out).mono ?_; rintro e w5 ⟨rfl, n5, hw5⟩; rw [HD.out]
        have HW5 := hidI (show w5 = w.drewN (m + n5) by rw [hw5, HW.out, World.drewN_drewN]); clear hw5
        go_wp2_with fail
        go_ret
        exact ⟨ret_bool HF.out.symm, _, HW5.out⟩
      · have HE2 := hidI (show ps ∉ pss.take (k + 1) by rw [take_snoc' hq]; simp; exact ⟨HE.out, fun e => he e.symm⟩)
        have HD := hidI (decide_eq_false he)
        clear he hq hcx hx
        go_wp2_with fail
        refine (sameInts_any q ps _ _ _ HX.out HUw.out).mono ?_; rintro e w5 ⟨rfl, n5, hw5⟩; rw [HD.out]
        have HW5 := hidI (show w5 = w.drewN (m + n5) by rw [hw5, HW.out, World.drewN_drewN]); clear hw5
        go_wp2_with fail
        go_roundw
        case rel => exact ⟨k + 1, _, by omega, by go_num, HE2, HW5⟩
        case measure => simp [intOf]; omega
    · have hk2 : k = pss.length := by omega
      have HF := hidI (decide_eq_false (show ¬ ps ∈ pss by have := HE.out; rw [hk2, List.take_length] at this; exact this))
      have hkI : ¬ (k : Int) < (pss.length : Int) := by omega
      clear hk2 hlt
      go_wp2_with fail
      go_ret
      exact ⟨ret_bool HF.out.symm, m, HW.out⟩

theorem laws_sameSame (zs : List Int) (v u : Value) (w : World) (h : IntS w v zs) (hu : IntS w u zs) :
    Calls Try.prog 19 #[v, u] w fun e w' => e = .returned (.bool true) ∧ ∃ n, w' = w.drewN n :=
  (sameInts_any zs zs v u w h hu).mono fun e w' ⟨he, hn⟩ => ⟨by rw [he]; simp, hn⟩

set_option maxHeartbeats 1000000 in
theorem laws_sameLists (pss : List (List Int)) (v u : Value) (w : World) (h : IntSS w v pss) (h' : IntSS w u pss) :
    Calls Try.prog 47 #[v, u] w fun e w' => e = .returned (.bool true) ∧ ∃ n, w' = w.drewN n := by
  obtain ⟨ao, cap, rfl, c1, c2, c3⟩ := h
  obtain ⟨ao', cap', rfl, c1', c2', c3'⟩ := h'
  unfold maxLen at c2 c2'
  have hnn : ((pss.length : Int) != (pss.length : Int)) = false := by simp
  by_cases h0 : pss.length = 0
  · have hI : ¬ (0 : Int) < (pss.length : Int) := by omega
    clear c3 c3' h0
    go_enter Try.func47, Try.ntmps47
    go_wp2_with fail
    refine wp_loop_rounds 1 ?_
    rw [rounds_succ]
    go_wp2_with fail
    go_ret
    exact ⟨rfl, 0, rfl⟩
  rcases c3 with ⟨rfl, _⟩ | ⟨b, off, rfl, hb, hc⟩
  · exact absurd rfl h0
  rcases c3' with ⟨rfl, _⟩ | ⟨b', off', rfl, hb', hc'⟩
  · exact absurd rfl h0
  have Hc := hidI hc; have Hc' := hidI hc'; clear hc hc'
  go_enter Try.func47, Try.ntmps47
  go_wp2_with fail
  go_loopw [5] (fun i wr => ∃ (k m : Nat), k ≤ pss.length ∧ i = .int .i64 k ∧ Hid (wr = w.drewN m)) (fun i _ => pss.length - (intOf i).toNat)
  case atStart => exact ⟨0, 0, by omega, rfl, hidI rfl⟩
  case round =>
    obtain ⟨k, m, hk, rfl, HW⟩ := hrel
    by_cases hlt : k < pss.length
    · have hkI : (k : Int) < (pss.length : Int) := by omega
      obtain ⟨p, hp⟩ : ∃ p, pss[k]? = some p := ⟨_, List.getElem?_eq_getElem hlt⟩
      obtain ⟨x, hcx, hx⟩ := Hc.out k p hp
      obtain ⟨y, hcy, hy⟩ := Hc'.out k p hp
      have e1 : wr.cell? ⟨b, off + k, none⟩ = some x := by rw [HW.out]; exact hcx
      have e2 : wr.cell? ⟨b', off' + k, none⟩ = some y := by rw [HW.out]; exact hcy
      have HX := hidI (show ∀ n, IntS (wr.drewN n) x p from fun n => by rw [HW.out]; exact (hx.below (bdraw w m)).below (bdraw _ n))
      have HY := hidI (show ∀ n, IntS (wr.drewN n) y p from fun n => by rw [HW.out]; exact (hy.below (bdraw w m)).below (bdraw _ n))
      obtain ⟨_, xo, xc, rfl, _⟩ := id hx
      obtain ⟨_, yo, yc, rfl, _⟩ := id hy
      clear hp hcx hcy hx hy
      go_wp2_with fail
      go_quiet ((go_at_call 19; exact quiet_drewV (laws_sameSame p _ _ _ (HX.out _) (HY.out _))))
      go_wp2_with fail
      go_roundw
      case rel => exact ⟨k + 1, m + nq, by omega, by go_num, hidI (by rw [HW.out, World.drewN_drewN])⟩
      case measure => simp [intOf]; omega
    · have hkI : ¬ (k : Int) < (pss.length : Int) := by omega
      go_wp2_with fail
      go_ret
      exact ⟨rfl, m, HW.out⟩

/-- A number of places and generators, in new memory. -/
def DrawnP (w w' : World) (e : Ending) : Prop := ∃ (q : Int) (g c : Nat) (us : List Value) (pss : List (List Int)), e = .returned (.tuple #[.int .i64 q, .slice (some ⟨g, 0, none⟩) pss.length c]) ∧ 0 ≤ q ∧ q ≤ 5 ∧ pss.length ≤ 6 ∧ (∀ p ∈ pss, p.length ≤ 4000000) ∧
  RowsOwn w' w.heap.size (.slice (some ⟨g, 0, none⟩) pss.length c) us pss ∧ Below w.heap.size w w'

theorem spec_drawP {n : Nat} {v : Value} {w w1 w' : World} {e : Ending} (b1 : Below w.heap.size w w1) (h : DrawnM w1 w' w.heap.size 0 e) : DrawnP w w' e := by
  obtain ⟨q, g, c, us, pss, rfl, h1, h2, h3, h4, h5, h6, h7⟩ := h
  exact ⟨q, g, c, us, pss, rfl, h1, h2, h3, fun p hp => by have := h4 p hp; omega, h5.base b1.size, b1.grown h7 b1.size (fun k hk => by cases hk; exact Nat.le_refl _)⟩

theorem spec_DrawGroupAll (n : Nat) (v : Value) (w : World) (h : BytS w w.heap.size v n) :
    Calls Try.prog 46 #[v] w fun e w' => DrawnP w w' e := by
  obtain ⟨bao, bcap, hv⟩ : ∃ ao cap, v = .slice ao n cap := by obtain ⟨ao, cap, h1, _⟩ := h; exact ⟨ao, cap, h1⟩
  subst hv
  have HV := hidI h; clear h
  go_enter Try.func46, Try.ntmps46
  go_wp2_with fail
  refine (spec_l20Open n _ w HV.out).mono ?_; rintro e w1 ⟨rfl, hr, b1⟩
  have HR := hidI hr; have B1 := hidI b1; clear hr b1
  go_wp2_with fail
  refine (spec_l20Moves w.heap.size 0 9 w1 HR.out (by omega) (by omega) (by omega)).mono ?_; rintro e w2 ⟨q, g, c, us, pss, rfl, h1, h2, h3, h4, h5, h6, h7⟩
  have HD := hidI (show DrawnP w w2 (.returned (.tuple #[.int .i64 q, .slice (some ⟨g, 0, none⟩) pss.length c])) from spec_drawP (n := n) (v := .slice bao n bcap) B1.out ⟨q, g, c, us, pss, rfl, h1, h2, h3, h4, h5, h6, h7⟩)
  clear h1 h2 h3 h4 h5 h6 h7
  go_wp2_with fail
  go_ret2
  exact HD.out
end Go.Proofs.Ytmmggbcmailbiaa
