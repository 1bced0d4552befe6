/- The program's groupSize, GroupOrder, LeavingOrder. -/
import Derived.Test.YtmmggbcmailbiaaGLM
namespace Go.Proofs.Ytmmggbcmailbiaa
open Go.RowKit Grp

attribute [local go_sem] Oper.semAt_some

def markOf (d : Nat) : Deferred := { target := .collected d, args := #[] }

/-- The blocks for the rounds' deferred calls, all empty. -/
def MarksOk (N : Nat) (Ds : List Nat) (w : World) : Prop := Ds.Nodup ∧ ∀ d ∈ Ds, N ≤ d ∧ w.heap[d]? = some (.deferred (some []))
theorem MarksOk.nil (N : Nat) (w : World) : MarksOk N [] w := ⟨List.nodup_nil, by simp⟩
theorem MarksOk.below {N : Nat} {Ds : List Nat} {w w' : World} (h : MarksOk N Ds w) (hb : Below w.heap.size w w') : MarksOk N Ds w' :=
  ⟨h.1, fun d hd => ⟨(h.2 d hd).1, (hb.block d (Array.getElem?_eq_some_iff.1 (h.2 d hd).2).1).trans (h.2 d hd).2⟩⟩
theorem MarksOk.cons {N D : Nat} {Ds : List Nat} {w w' : World} (h : MarksOk N Ds w) (hb : Below w.heap.size w w') (hD : w.heap.size ≤ D) (hN : N ≤ D) (hd : w'.heap[D]? = some (.deferred (some []))) : MarksOk N (D :: Ds) w' :=
  ⟨List.nodup_cons.2 ⟨fun hm => by have := (Array.getElem?_eq_some_iff.1 (h.2 D hm).2).1; omega, h.1⟩, fun d hd' => by
    rcases List.mem_cons.1 hd' with rfl | hd'
    · exact ⟨hN, hd⟩
    · exact (h.below hb).2 d hd'⟩

theorem leaves_marks {fn : Func} {tmps : Array Value} {R : Ending → World → Prop} {N : Nat} : ∀ (Ds : List Nat) (W : World), MarksOk N Ds W → N ≤ W.heap.size →
    (∀ W', Below N W W' → LeavesInM Fence.wide 9 Try.prog fn tmps R [] .returning W') → LeavesInM Fence.wide 9 Try.prog fn tmps R (Ds.map markOf) .returning W
  | [], W, _, _, h => h W (Below.refl _ _)
  | d :: Ds, W, hm, hN, h => by
    have hd := hm.2 d (by simp)
    refine ⟨by simp, .inl ⟨d, _, rfl, run_takeDeferred hd.2, ?_⟩⟩
    refine leaves_marks Ds _ ⟨(List.nodup_cons.1 hm.1).2, fun e he => ⟨(hm.2 e (by simp [he])).1, (World.putObj_heap_other (fun h => (List.nodup_cons.1 hm.1).1 (by rw [← h]; exact he))).trans (hm.2 e (by simp [he])).2⟩⟩ (by simp; exact hN) (fun W' hb => h W' ((below_putObj hd.1 hN).trans hb))

theorem orbit_len {n x : Nat} {ms : List Pm} {pre : NP} {y : Nat × Pm} (h5 : n ≤ 5) (hm : OkM n ms) (hx : x < n) (h : pre ++ [y] <+: orbitW n ms x) : pre.length < 5 := by
  have h1 := h.length_le
  rw [List.length_append] at h1
  have h2 := len_le (l := (orbitW n ms x).map Prod.fst) (m := List.range n) (orbitW_facts h5 hm hx).2.1 (fun z hz => by
    obtain ⟨q, hq, rfl⟩ := List.mem_map.1 hz
    exact List.mem_range.2 ((orbitW_facts h5 hm hx).1 q hq).1)
  rw [List.length_map, List.length_range] at h2
  simp at h1
  omega

theorem size_le {n : Nat} {ms : List Pm} (h1 : 1 ≤ n) (h5 : n ≤ 5) (hm : OkM n ms) : size n ms ≤ 120 := by
  rw [size_eq h5 hm]
  have h2 := Nat.le_of_dvd (by have : n = 1 ∨ n = 2 ∨ n = 3 ∨ n = 4 ∨ n = 5 := by omega
                               rcases this with rfl | rfl | rfl | rfl | rfl <;> decide) (group_fact h1 h5 hm)
  have : fact n ≤ 120 := by
    have : n = 1 ∨ n = 2 ∨ n = 3 ∨ n = 4 ∨ n = 5 := by omega
    rcases this with rfl | rfl | rfl | rfl | rfl <;> decide
  omega

theorem sizeFrom_pos {n : Nat} : ∀ (xs : List Nat) (ms : List Pm), 1 ≤ sizeFrom n ms xs
  | [], ms => Nat.le_refl _
  | x :: xs, ms => by
    unfold sizeFrom
    have h1 := List.length_pos_of_mem (orbitW_start n ms x)
    have h2 := sizeFrom_pos (n := n) xs (leave n ms x)
    exact Nat.mul_pos h1 h2

theorem size_step {n k o S : Nat} {ks : List Pm} (h5 : n ≤ 5) (hm : OkM n ks) (hk : k < n) (ho : o ≤ 120) (h : o * sizeFrom n ks (List.range' k (n - k)) = S) (hS : S ≤ 120) :
    o * (orbitW n ks k).length ≤ 120 ∧ o * (orbitW n ks k).length * sizeFrom n (leave n ks k) (List.range' (k + 1) (n - (k + 1))) = S := by
  have e : List.range' k (n - k) = k :: List.range' (k + 1) (n - (k + 1)) := by
    rw [show n - k = (n - (k + 1)) + 1 by omega]; rfl
  rw [e] at h
  unfold sizeFrom at h
  rw [← Nat.mul_assoc] at h
  refine ⟨?_, h⟩
  have h2 := sizeFrom_pos (n := n) (List.range' (k + 1) (n - (k + 1))) (leave n ks k)
  have := Nat.le_mul_of_pos_right (o * (orbitW n ks k).length) h2
  omega

set_option maxRecDepth 100000 in
set_option maxHeartbeats 4000000 in
theorem impl_groupSize (n : Nat) (ms : List Pm) (v : Value) (w : World) (h : IntSS w v (ms.map up)) (hm : OkM n ms) (h1 : 1 ≤ n) (h5 : n ≤ 5) (h3 : ms.length ≤ 1000) :
    Calls Try.prog 85 #[.int .i64 (n : Int), v] w fun e w' => e = .returned (.int .i64 (size n ms : Nat)) ∧ Below w.heap.size w w' := by
  have HM := hidI h; have HO := hidI hm
  obtain ⟨ao, cap, hv, hcap, hmax⟩ := ints_of_rows h
  subst hv
  unfold maxLen at hmax
  clear h hm
  refine (callsIn_wide (n := 9)).1 ?_
  refine callsIn_of_wp_marks Try.func85 rfl trivial ?_ rfl
  refine wpIn_wide.2 ?_
  simp only [Try.ntmps85, List.size_toArray, List.length_cons, List.length_nil, Nat.reduceAdd, Nat.reduceSub, Array.replicate_succ, Array.replicate_zero, List.push_toArray, List.append_toArray, List.nil_append, List.cons_append]
  go_wp2_with fail
  refine wp_loop (fun a w' => ∃ (u1 u5 u6 u7 u9 u10 u11 u12 u13 u14 u15 u16 u17 u18 u19 u20 u21 u22 u23 u24 u25 u26 u27 u28 : Value) (ds : List Deferred), (∃ (k o : Nat) (ks : List Pm) (ao : Option Addr) (cap : Nat) (Ds : List Nat), u1 = .slice ao ks.length cap ∧ u5 = .int .i64 (o : Nat) ∧ u9 = .int .i64 (k : Nat) ∧ ds = Ds.map markOf ∧ k ≤ n ∧ Hid (IntSS w' (.slice ao ks.length cap) (ks.map up)) ∧ Hid (OkM n ks) ∧ ks.length ≤ 1000 ∧ o ≤ 120 ∧ Hid (o * sizeFrom n ks (List.range' k (n - k)) = size n ms) ∧ Hid (Below w.heap.size w w') ∧ Hid (MarksOk w.heap.size Ds w')) ∧
    a = { tmps := #[.int .i64 (n : Int), u1, undef, undef, .int .i64 0, u5, u6, u7, .int .i64 (n : Int), u9, u10, u11, u12, u13, u14, u15, u16, u17, u18, u19, u20, u21, u22, u23, u24, u25, u26, u27, u28], defers := ds }) (fun a _ => n - (intOf (a.tmps.getD 9 undef)).toNat) ?start ?round
  case start =>
    (repeat apply Exists.intro)
    refine ⟨?_, rfl⟩
    exact ⟨0, 1, ms, ao, cap, [], rfl, rfl, rfl, rfl, by omega, HM, HO, h3, by omega, hidI (by unfold size; rw [List.range_eq_range', Nat.one_mul]; rfl), hidI (Below.refl _ _), hidI (MarksOk.nil _ _)⟩
  case round =>
    rintro a wr ⟨u1, u5, u6, u7, u9, u10, u11, u12, u13, u14, u15, u16, u17, u18, u19, u20, u21, u22, u23, u24, u25, u26, u27, u28, ds, ⟨k, o, ks, ao, cap, Ds, rfl, rfl, rfl, rfl, hk, HS, HK, hk3, ho, HE, HB, HMk⟩, rfl⟩
    dsimp only
    obtain ⟨ao', cap', hv', hcap', hmax'⟩ := ints_of_rows HS.out
    injection hv' with e1 e2 e3
    subst e1; subst e3
    unfold maxLen at hmax'
    clear e2
    by_cases hlt : k < n
    rotate_left
    · have hkI : ¬ (k : Int) < (n : Int) := by omega
      have HEn := hidI (show o = size n ms by rw [← HE.out, show n - k = 0 by omega]; simp [sizeFrom])
      go_wp2_with fail
      refine leaves_marks Ds wr HMk.out HB.out.size (fun W' hb => ⟨_, results_tmp rfl _ _ _, by rw [HEn.out]; rfl, HB.out.trans hb⟩)
    have hkI : (k : Int) < (n : Int) := by omega
    have hxb : Boxed (wr.alloc (.cells #[.int .i64 0] 3)) wr.heap.size 3 (.int .i64 0) := Boxed.new wr _ _
    have hbb : Below wr.heap.size wr (wr.alloc (.cells #[.int .i64 0] 3)) := (Below.refl _ _).alloc (Nat.le_refl _) _
    obtain ⟨wc, hwc⟩ : ∃ wc, wc = wr.alloc (.cells #[.int .i64 0] 3) := ⟨_, rfl⟩
    have hsc : wc.heap.size = wr.heap.size + 1 := by rw [hwc]; simp
    rw [← hwc] at hxb hbb
    have HXB := hidI hxb; have HBB := hidI hbb; have HWC := hidI hwc
    clear hxb hbb hwc
    go_wp2_with fail
    rw [← HWC.out]
    refine (impl_orbitSeq (n : Int) ao ks.length cap (k : Int) wc).mono ?_; rintro e w4 ⟨rfl, hw4⟩
    have SQ := hidI (orbit_made 8 n k ks ao cap wr wc HS.out HBB.out h1 h5 hk3 HK.out hlt w4 hw4)
    have hs4 : w4.heap.size = wr.heap.size + 4 := by rw [hw4]; simp; omega
    have hb4 : Below wc.heap.size wc w4 := by rw [hw4]; exact (((Below.refl wc.heap.size wc).alloc (Nat.le_refl _) _).alloc (by simp) _).alloc (by simp; omega) _
    have HB4 := hidI (HBB.out.trans (hb4.mono (by omega)))
    have HX4 := hidI (show Boxed w4 _ _ _ from (hb4.block _ (by omega)).trans HXB.out)
    rw [hsc] at SQ ⊢
    clear hw4 hb4
    go_wp2_with fail
    refine (wpIn_wide (n := 9)).1 ?_
    refine wpIn_rangeFunc_X (by decide) rfl (enters_of Try.func90 (by kernel_rfl) rfl) SQ.out (by rintro k (h | h | h | h) <;> omega) rdO_put (Below.refl _ _) (fun _ _ => rfl)
      (fun pre _ W => (∃ v, Boxed W wr.heap.size 3 v ∧ v = .int .i64 (pre.length : Nat)) ∧ Below wr.heap.size wr W)
      (fun _ _ _ _ => False) ((abx_boxed (by omega) _).and (abx_below (Nat.le_refl _) (by omega))) (fun _ => abx_no) ⟨⟨_, HX4.out, rfl⟩, HB4.out⟩ ?round2 ?done ?stop
    case stop => intro D X c pre W _ _ _ _ h; exact h.elim
    case round2 =>
      rintro l pre y v X W W1 ⟨⟨_, hbx, rfl⟩, hB⟩ hpre hrd _ hX hsz K hK
      have hpl := orbit_len h5 HK.out hlt hpre
      have hc := hbx.cell
      have hf := hbx.frozen
      have HBX := hidI hbx; have HX := hidI hX; have HBv := hidI hB
      clear SQ HX4 HB4 hbx hX hB hpre hrd
      unfold encO
      gi_wp2
      refine hK.out _ ?_
      clear hK
      gi_wp2
      exact ⟨KeepX.setCell _ _ (by rintro (h | h | h | h) <;> omega) (fun h => by have := HX.out _ h; omega), ⟨_, HBX.out.set _, by rw [List.length_append]; rfl⟩, HBv.out.setCell (Nat.le_refl _) _⟩
    case done =>
      rintro D X W hD hX hsz ⟨⟨_, hbx, rfl⟩, hB⟩ hK
      have hDw := hX _ hD
      have HFA := hidI (size_step h5 HK.out hlt ho HE.out (size_le h1 h5 HO.out))
      obtain ⟨L, hL⟩ : ∃ L, L = (orbitW n ks k).length := ⟨_, rfl⟩
      rw [← hL] at hbx HFA
      have hmul : wrap64 ((o : Int) * (L : Int)) = ((o * L : Nat) : Int) := by
        have := HFA.out.1
        rw [← Int.natCast_mul]; exact (IntWalk.i64_left _).symm.trans (IntWalk.i64_in _ ⟨by omega, by omega⟩)
      obtain ⟨o2, ho2⟩ : ∃ o2, o2 = o * L := ⟨_, rfl⟩
      rw [← ho2] at hmul HFA
      have hc := hbx.cell
      have HBv := hidI (HB.out.trans (hB.mono HB.out.size))
      have HMk2 := hidI (HMk.out.cons hB (by omega) (by have := HB.out.size; omega) hK)
      have HSW := hidI (HS.out.below hB)
      clear SQ HX4 HB4 hD hX hsz hbx hB hK hL ho2
      go_wp2_with fail
      refine (impl_leavingMoves n k ks _ W HSW.out HK.out h1 h5 hk3 hlt).mono ?_; rintro e w5 ⟨v5, rfl, h5s, b5, -⟩
      obtain ⟨ao5, cap5, hv5, _, _⟩ := ints_of_rows h5s
      subst hv5
      have H5 := hidI h5s; have B5 := hidI b5
      clear h5s b5
      go_wp2_with fail
      refine ⟨?_, ?measure⟩
      (repeat apply Exists.intro)
      refine ⟨?rel, rfl⟩
      case rel => exact ⟨k + 1, o2, leave n ks k, ao5, cap5, D :: Ds, rfl, rfl, by go_num, rfl, by omega, H5, hidI (leave_ok h5 HK.out hlt), by have := (leave_lv h5 HK.out hlt).len h1 h5; omega, HFA.out.1, hidI HFA.out.2, hidI (bthen HBv.out B5.out), hidI (HMk2.out.below B5.out)⟩
      case measure => simp [intOf]; omega

theorem impl_GroupOrder (n : Nat) (ms : List Pm) (v : Value) (w : World) (h : IntSS w v (ms.map up)) (hm : OkM n ms) (h1 : 1 ≤ n) (h5 : n ≤ 5) (h3 : ms.length ≤ 3) :
    Calls Try.prog 30 #[.int .i64 (n : Int), v] w fun e w' => e = .returned (.int .i64 (size n ms : Nat)) ∧ Below w.heap.size w w' := by
  have HV := hidI (show mvalid (n : Int) (ms.map up) = true from (mvalid_iff _ _).2 ⟨n, ms, rfl, h1, h5, rfl, h3, hm⟩)
  have HM := hidI h; have HO := hidI hm
  obtain ⟨ao, cap, hv, _, _⟩ := ints_of_rows h
  subst hv
  clear h hm
  go_enter Try.func30, Try.ntmps30
  go_wp2_with fail
  refine (impl_MovesValid (n : Int) (ms.map up) _ _ HM.out).mono ?_; rintro e w' ⟨rfl, rfl⟩; rw [HV.out]
  go_wp2_with fail
  refine (impl_groupSize n ms _ _ HM.out HO.out h1 h5 (by omega)).mono ?_; rintro e w5 ⟨rfl, b5⟩
  have B5 := hidI b5; clear b5
  go_wp2_with fail
  go_ret
  exact ⟨rfl, B5.out⟩

theorem impl_GroupOrder_no (places : Int) (pss : List (List Int)) (v : Value) (w : World) (h : IntSS w v pss) (hm : mvalid places pss = false) :
    Calls Try.prog 30 #[.int .i64 places, v] w fun e w' => e = .returned (.int .i64 (-1)) ∧ w = w' := by
  have HM := hidI h; have HO := hidI hm
  obtain ⟨ao, cap, hv, _, _⟩ := id h
  subst hv
  clear h hm
  go_enter Try.func30, Try.ntmps30
  go_wp2_with fail
  refine (impl_MovesValid places pss _ _ HM.out).mono ?_; rintro e w' ⟨rfl, rfl⟩; rw [HO.out]
  go_wp2_with fail
  go_ret
  exact ⟨rfl, rfl⟩

/-- A place. -/
def inP (places x : Int) : Bool := decide (0 ≤ x ∧ x < places)
theorem inP_nat {n : Nat} {x : Int} (h : inP (n : Int) x = true) : ∃ k : Nat, x = k ∧ k < n := by
  unfold inP at h
  have := of_decide_eq_true h
  obtain ⟨k, rfl⟩ := Int.eq_ofNat_of_zero_le this.1
  exact ⟨k, rfl, by omega⟩

theorem impl_LeavingOrder (n x : Nat) (ms : List Pm) (v : Value) (w : World) (h : IntSS w v (ms.map up)) (hm : OkM n ms) (h1 : 1 ≤ n) (h5 : n ≤ 5) (h3 : ms.length ≤ 3) (hx : x < n) :
    Calls Try.prog 40 #[.int .i64 (n : Int), v, .int .i64 (x : Int)] w fun e w' => e = .returned (.int .i64 (size n (leave n ms x) : Nat)) ∧ Below w.heap.size w w' := by
  have HV := hidI (show mvalid (n : Int) (ms.map up) = true from (mvalid_iff _ _).2 ⟨n, ms, rfl, h1, h5, rfl, h3, hm⟩)
  have HM := hidI h; have HO := hidI hm
  obtain ⟨ao, cap, hv, _, _⟩ := ints_of_rows h
  subst hv
  have hx0 : decide ((x : Int) < 0) = false := decide_eq_false (by omega)
  have hxn : decide (n ≤ x) = false := decide_eq_false (by omega)
  clear h hm
  go_enter Try.func40, Try.ntmps40
  go_wp2_with fail
  refine (impl_MovesValid (n : Int) (ms.map up) _ _ HM.out).mono ?_; rintro e w' ⟨rfl, rfl⟩; rw [HV.out]
  go_wp2_with fail
  refine (impl_leavingMoves n x ms _ _ HM.out HO.out h1 h5 (by omega) hx).mono ?_; rintro e w4 ⟨v4, rfl, h4, b4, -⟩
  have H4 := hidI h4; have B4 := hidI b4
  obtain ⟨ao4, cap4, hv4, _, _⟩ := ints_of_rows h4
  subst hv4
  clear h4 b4
  go_wp2_with fail
  refine (impl_groupSize n (leave n ms x) _ _ H4.out (leave_ok h5 HO.out hx) h1 h5 (by have := (leave_lv h5 HO.out hx).len h1 h5; omega)).mono ?_; rintro e w5 ⟨rfl, b5⟩
  have B5 := hidI (bthen B4.out b5); clear b5
  go_wp2_with fail
  go_ret
  exact ⟨rfl, B5.out⟩

theorem impl_LeavingOrder_no (places x : Int) (pss : List (List Int)) (v : Value) (w : World) (h : IntSS w v pss) (hm : mvalid places pss = false ∨ inP places x = false) :
    Calls Try.prog 40 #[.int .i64 places, v, .int .i64 x] w fun e w' => e = .returned (.int .i64 (-1)) ∧ w = w' := by
  have HM := hidI h
  obtain ⟨ao, cap, hv, _, _⟩ := id h
  subst hv
  clear h
  cases hmv : mvalid places pss
  · have HO := hidI hmv; clear hmv hm
    go_enter Try.func40, Try.ntmps40
    go_wp2_with fail
    refine (impl_MovesValid places pss _ _ HM.out).mono ?_; rintro e w' ⟨rfl, rfl⟩; rw [HO.out]
    go_wp2_with fail
    go_ret
    exact ⟨rfl, rfl⟩
  have hin : inP places x = false := hm.resolve_left (by rw [hmv]; simp)
  unfold inP at hin
  have hin2 := of_decide_eq_false hin
  have HO := hidI hmv; clear hmv hm hin
  by_cases h0 : x < 0
  · clear hin2
    go_enter Try.func40, Try.ntmps40
    go_wp2_with fail
    refine (impl_MovesValid places pss _ _ HM.out).mono ?_; rintro e w' ⟨rfl, rfl⟩; rw [HO.out]
    go_wp2_with fail
    go_ret
    exact ⟨rfl, rfl⟩
  have hp : places ≤ x := by omega
  clear hin2
  go_enter Try.func40, Try.ntmps40
  go_wp2_with fail
  refine (impl_MovesValid places pss _ _ HM.out).mono ?_; rintro e w' ⟨rfl, rfl⟩; rw [HO.out]
  go_wp2_with fail
  go_ret
  exact ⟨rfl, rfl⟩
end Go.Proofs.Ytmmggbcmailbiaa
