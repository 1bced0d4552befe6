/- The program's OrbitsMany. -/
import Derived.Test.YtmmggbcmailbiaaGZ
namespace Go.Proofs.Ytmmggbcmailbiaa
open Go.RowKit Grp

attribute [local go_sem] Oper.semAt_some

theorem manyTo_le (n : Nat) (ms : List Pm) (k : Nat) : manyTo n ms k ≤ k := by
  unfold manyTo
  have := List.length_filter_le (least n ms) (List.range k)
  rwa [List.length_range] at this

theorem seen_old {n k S : Nat} {ms : List Pm} (h5 : n ≤ 5) (hm : OkM n ms) (hk : k < n) (hS : ∀ y, S.testBit y = true ↔ ∃ i, i < k ∧ y ∈ orbitL n ms i) (hbt : S.testBit k = true) : ∀ y, S.testBit y = true ↔ ∃ i, i < k + 1 ∧ y ∈ orbitL n ms i := by
  intro y
  rw [hS]
  constructor
  · rintro ⟨i, hi, h⟩; exact ⟨i, by omega, h⟩
  · rintro ⟨i, hi, h⟩
    rcases Nat.lt_or_ge i k with h2 | h2
    · exact ⟨i, h2, h⟩
    · obtain rfl : i = k := by omega
      obtain ⟨j, hj, hjm⟩ := (hS i).1 hbt
      exact ⟨j, hj, orb_trans h5 hm (by omega) hk hjm h⟩

theorem seen_new {n k S S' : Nat} {ms : List Pm} (hS : ∀ y, S.testBit y = true ↔ ∃ i, i < k ∧ y ∈ orbitL n ms i) (hS' : ∀ y, S'.testBit y = true ↔ (S.testBit y = true ∨ y ∈ (orbitW n ms k).map Prod.fst)) : ∀ y, S'.testBit y = true ↔ ∃ i, i < k + 1 ∧ y ∈ orbitL n ms i := by
  intro y
  rw [hS', hS]
  constructor
  · rintro (⟨i, hi, h⟩ | h)
    · exact ⟨i, by omega, h⟩
    · exact ⟨k, by omega, h⟩
  · rintro ⟨i, hi, h⟩
    rcases Nat.lt_or_ge i k with h2 | h2
    · exact .inl ⟨i, h2, h⟩
    · obtain rfl : i = k := by omega
      exact .inr h

theorem mask_all2 {n k S : Nat} {ms : List Pm} (h5 : n ≤ 5) (hm : OkM n ms) (hk : k ≤ n) (hS : ∀ y, S.testBit y = true ↔ ∃ i, i < k ∧ y ∈ orbitL n ms i) : S < 32 :=
  Nat.lt_pow_two_of_testBit (n := 5) S (fun i hi => by
    cases e : S.testBit i with
    | false => rfl
    | true =>
      obtain ⟨z, hz, e'⟩ := (hS i).1 e
      have := orb_lt h5 hm (show z < n by omega) e'
      omega)

theorem mask_lt2 {n x S S' : Nat} {ms : List Pm} {pre : NP} {y : Nat × Pm} (h5 : n ≤ 5) (hm : OkM n ms) (hx : x < n) (h : pre ++ [y] <+: orbitW n ms x) (hS : S < 32) (hS' : ∀ y, S'.testBit y = true ↔ (S.testBit y = true ∨ y ∈ pre.map Prod.fst)) : S' < 32 :=
  Nat.lt_pow_two_of_testBit (n := 5) S' (fun i hi => by
    cases e : S'.testBit i with
    | false => rfl
    | true =>
      rcases (hS' i).1 e with e | e
      · rw [Nat.testBit_lt_two_pow (show S < 2 ^ i from Nat.lt_of_lt_of_le hS (Nat.pow_le_pow_right (n := 2) (i := 5) (by decide) hi))] at e; cases e
      · obtain ⟨z, hz, e'⟩ := List.mem_map.1 e
        have := ((orbitW_facts h5 hm hx).1 z (h.subset (by simp [hz]))).1
        omega)

theorem mask_add2 {S S' : Nat} {pre : NP} {y : Nat × Pm} (hS : ∀ y, S'.testBit y = true ↔ (S.testBit y = true ∨ y ∈ pre.map Prod.fst)) : ∀ z, (S' ||| 2 ^ y.1).testBit z = true ↔ (S.testBit z = true ∨ z ∈ (pre ++ [y]).map Prod.fst) := by
  intro z
  rw [Nat.testBit_or, Bool.or_eq_true, hS, List.map_append, List.mem_append, Nat.testBit_two_pow, or_assoc]
  exact or_congr Iff.rfl (or_congr Iff.rfl (by rw [decide_eq_true_iff, List.map_cons, List.map_nil, List.mem_singleton]; exact eq_comm))

theorem abx_marks {β : Type} {B N : Nat} {Ds : List Nat} (hD : ∀ d ∈ Ds, d < B) : AbX B (fun (_ : β) _ W => MarksOk N Ds W) :=
  fun _ _ _ _ hX _ h hm => ⟨h.1, fun d hd => ⟨(h.2 d hd).1, (hm.block d (Array.getElem?_eq_some_iff.1 (h.2 d hd).2).1 (fun e => by have := (hX d e).1; have := hD d hd; omega)).trans (h.2 d hd).2⟩⟩

set_option maxRecDepth 100000 in
set_option maxHeartbeats 4000000 in
theorem impl_OrbitsMany (n : Nat) (ms : List Pm) (v : Value) (w : World) (h : IntSS w v (ms.map up)) (hm : OkM n ms) (h1 : 1 ≤ n) (h5 : n ≤ 5) (h3 : ms.length ≤ 3) :
    Calls Try.prog 43 #[.int .i64 (n : Int), v] w fun e w' => e = .returned (.int .i64 (manyTo n ms n : Nat)) ∧ Below w.heap.size w w' := by
  have HV := hidI (show mvalid (n : Int) (ms.map up) = true from (mvalid_iff _ _).2 ⟨n, ms, rfl, h1, h5, rfl, h3, hm⟩)
  have HM := hidI h; have HO := hidI hm
  obtain ⟨ao, cap, hv, hcap, hmax⟩ := ints_of_rows h
  subst hv
  unfold maxLen at hmax
  clear h hm
  refine (callsIn_wide (n := 9)).1 ?_
  refine callsIn_of_wp_marks Try.func43 rfl trivial ?_ rfl
  refine wpIn_wide.2 ?_
  simp only [Try.ntmps43, List.size_toArray, List.length_cons, List.length_nil, Nat.reduceAdd, Nat.reduceSub, Array.replicate_succ, Array.replicate_zero, List.push_toArray, List.append_toArray, List.nil_append, List.cons_append]
  go_wp2_with fail
  refine (impl_MovesValid (n : Int) (ms.map up) _ _ HM.out).mono ?_; rintro e w' ⟨rfl, rfl⟩; rw [HV.out]
  go_wp2_with fail
  have HX0 := hidI (Boxed.new w 3 (.int .i64 0))
  have HB0 := hidI ((Below.refl w.heap.size w).alloc (Nat.le_refl _) (.cells #[.int .i64 0] 3))
  refine wp_loop (fun a w' => ∃ (u6 u7 u8 u14 u15 u16 u17 u18 u19 u20 u21 u22 u23 u24 u25 u26 u27 u28 u29 u30 u31 u32 u33 u34 u35 : Value) (ds : List Deferred), (∃ (k S : Nat) (Ds : List Nat), u6 = .int .i64 (manyTo n ms k : Nat) ∧ u14 = .int .i64 (k : Nat) ∧ ds = Ds.map markOf ∧ k ≤ n ∧ S < 32 ∧ Hid (∀ y, S.testBit y = true ↔ ∃ i, i < k ∧ y ∈ orbitL n ms i) ∧ Hid (Boxed w' w.heap.size 3 (.int .i64 (S : Nat))) ∧ Hid (Below w.heap.size w w') ∧ Hid (MarksOk w.heap.size Ds w')) ∧
    a = { tmps := #[.int .i64 (n : Int), .slice ao ms.length cap, undef, undef, .int .i64 0, .pointer (some ⟨w.heap.size, 0, none⟩), u6, u7, u8, .int .i64 (n : Int), .slice ao ms.length cap, .bool true, .bool false, .int .i64 (n : Int), u14, u15, u16, u17, u18, u19, u20, u21, u22, u23, u24, u25, u26, u27, u28, u29, u30, u31, u32, u33, u34, u35], defers := ds }) (fun a _ => n - (intOf (a.tmps.getD 14 undef)).toNat) ?start ?round
  case start =>
    (repeat apply Exists.intro)
    refine ⟨?_, rfl⟩
    exact ⟨0, 0, [], rfl, rfl, rfl, by omega, by omega, hidI (fun y => by simp), HX0, HB0, hidI (MarksOk.nil _ _)⟩
  case round =>
    rintro a wr ⟨u6, u7, u8, u14, u15, u16, u17, u18, u19, u20, u21, u22, u23, u24, u25, u26, u27, u28, u29, u30, u31, u32, u33, u34, u35, ds, ⟨k, S, Ds, rfl, rfl, rfl, hk, hS, HS, HXB, HB, HMk⟩, rfl⟩
    dsimp only
    clear HX0 HB0
    by_cases hlt : k < n
    rotate_left
    · have hkI : ¬ (k : Int) < (n : Int) := by omega
      have hkn := hidI (show k = n by omega)
      go_wp2_with fail
      refine leaves_marks Ds wr HMk.out HB.out.size (fun W' hb => ⟨_, results_tmp rfl _ _ _, by rw [hkn.out]; rfl, HB.out.trans hb⟩)
    have hkI : (k : Int) < (n : Int) := by omega
    have hc := HXB.out.cell
    have hbe := bit_eq1v S k hS
    have hmt := manyTo_succ n ms k
    have hml := manyTo_le n ms k
    have hsw := HB.out.size
    have hsb : w.heap.size < wr.heap.size := HXB.out.lt
    cases hbt : S.testBit k
    rotate_left
    · -- its orbit has come
      have HS2 := hidI (seen_old h5 HO.out hlt HS.out hbt)
      have hm2 := hidI (show manyTo n ms k = manyTo n ms (k + 1) by
        rw [hmt, if_neg (fun e => by obtain ⟨i, hi, hm⟩ := (HS.out k).1 hbt; exact (least_iff.1 e) i hi hm)]; rfl)
      rw [hbt] at hbe
      clear hbt hmt
      go_wp2_with fail
      refine ⟨?_, ?measure⟩
      (repeat apply Exists.intro)
      refine ⟨?rel, rfl⟩
      case rel => exact ⟨k + 1, S, Ds, by rw [← hm2.out], by go_num, rfl, by omega, hS, HS2, HXB, HB, HMk⟩
      case measure => simp [intOf]; omega
    have hm2 := hidI (show manyTo n ms k + 1 = manyTo n ms (k + 1) by
      rw [hmt, if_pos (least_iff.2 (fun i hi hm => by rw [(HS.out k).2 ⟨i, hi, hm⟩] at hbt; cases hbt))])
    rw [hbt] at hbe
    have HMr := hidI (show IntSS wr (.slice ao ms.length cap) (ms.map up) from HM.out.below HB.out)
    clear hbt hmt
    go_wp2_with fail
    refine (impl_orbitSeq (n : Int) ao ms.length cap (k : Int) wr).mono ?_; rintro e w4 ⟨rfl, hw4⟩
    have SQ := hidI (orbit_made 8 n k ms ao cap w wr HM.out HB.out h1 h5 (by omega) HO.out hlt w4 hw4)
    have hs4 : w4.heap.size = wr.heap.size + 3 := by rw [hw4]; simp
    have hb4 : Below wr.heap.size wr w4 := by rw [hw4]; exact (((Below.refl wr.heap.size wr).alloc (Nat.le_refl _) _).alloc (by simp) _).alloc (by simp; omega) _
    have HB4 := hidI (HB.out.trans (hb4.mono hsw))
    have HX4 := hidI (show Boxed w4 _ _ _ from (hb4.block _ hsb).trans HXB.out)
    have HM4 := hidI (HMk.out.below hb4)
    have hDs : ∀ d ∈ Ds, d < w4.heap.size := fun d hd => by have := (Array.getElem?_eq_some_iff.1 (HMk.out.2 d hd).2).1; omega
    have hDr : ∀ d ∈ Ds, d < wr.heap.size := fun d hd => (Array.getElem?_eq_some_iff.1 (HMk.out.2 d hd).2).1
    have HDr := hidI hDr
    clear hw4 hb4 HB HXB HMk hDr
    go_wp2_with fail
    refine (wpIn_wide (n := 9)).1 ?_
    refine wpIn_rangeFunc_X (by decide) rfl (enters_of Try.func90 (by kernel_rfl) rfl) SQ.out (by rintro k (h | h | h | h) <;> omega) rdO_put (Below.refl _ _) (fun _ _ => rfl)
      (fun pre _ W => (∃ v, Boxed W w.heap.size 3 v ∧ ∃ S' : Nat, v = .int .i64 (S' : Nat) ∧ ∀ y, S'.testBit y = true ↔ (S.testBit y = true ∨ y ∈ pre.map Prod.fst)) ∧ Below w.heap.size w W ∧ MarksOk w.heap.size Ds W)
      (fun _ _ _ _ => False) ((abx_boxed (by omega) _).and ((abx_below (Nat.le_refl _) (by omega)).and (abx_marks hDs))) (fun _ => abx_no) ⟨⟨_, HX4.out, S, rfl, by simp⟩, HB4.out, HM4.out⟩ ?round2 ?done ?stop
    case stop => intro D X c pre W _ _ _ _ h; exact h.elim
    case round2 =>
      rintro l pre y v X W W1 ⟨⟨_, hbx, S', rfl, hS'⟩, hBv, hMv⟩ hpre hrd _ hX hsz K hK
      have hyn := orbit_lt h5 HO.out hlt hpre
      have hS32 := mask_lt2 h5 HO.out hlt hpre hS hS'
      have hc := hbx.cell
      have hf := hbx.frozen
      have hs1 := shl1 (n := y.1) (by omega)
      have hp32 := pow_lt32 (n := y.1) (by omega)
      have hor := or_i64 S' (2 ^ y.1) (by omega) (by omega)
      have hS2 := mask_add2 (y := y) hS'
      obtain ⟨P, hP⟩ : ∃ P : Nat, P = 2 ^ y.1 := ⟨_, rfl⟩
      rw [← hP] at hs1 hp32 hor hS2
      obtain ⟨S'', hS''⟩ : ∃ S'' : Nat, S'' = S' ||| P := ⟨_, rfl⟩
      rw [← hS''] at hor hS2
      have HS2 := hidI hS2
      have HX := hidI hX; have HBX := hidI hbx; have HBv := hidI hBv; have HMv := hidI hMv
      clear SQ HX4 HB4 HM4 hbe hP hS'' hS2 hS' hX hpre hrd hbx hBv hMv
      unfold encO
      gi_wp2
      refine hK.out _ ?_
      refine wpIn_block ?_
      refine region_roundA (by kernel_rfl) (by kernel_rfl) (fun ⟨_, _, h⟩ => h) ?_
      refine take_at (i := 1) (v := ?_) 31 rfl rfl (by kernel_rfl) (by kernel_rfl) (by kernel_rfl) (fun _ _ _ h => h) (Or.inl ⟨by rfl, ?_⟩) ?_
      rotate_left
      · intro w; go_simp; try with_reducible rfl
      (try simp only [Act.put, List.setIfInBounds_toArray, List.set_cons_zero, List.set_cons_succ])
      refine take_at (i := 2) (v := ?_) 32 rfl rfl (by kernel_rfl) (by kernel_rfl) (by kernel_rfl) (fun _ _ _ h => h) (Or.inl ⟨by rfl, ?_⟩) ?_
      rotate_left
      · intro w; go_simp; try with_reducible rfl
      (try simp only [Act.put, List.setIfInBounds_toArray, List.set_cons_zero, List.set_cons_succ])
      refine wpAny_ready (rs := [0]) (by kernel_rfl) (by simp) ?_
      refine AllReady.cons rfl (fun K hK => ?_) AllReady.nil
      go_simp
      refine hK _ _ ?_; clear hK K
      refine wpAny_ready (rs := [3]) (by kernel_rfl) (by simp) ?_
      refine AllReady.cons rfl (fun K hK => ?_) AllReady.nil
      go_simp
      refine hK _ _ ?_; clear hK K
      refine wpAny_ready (rs := [4]) (by kernel_rfl) (by simp) ?_
      refine AllReady.cons rfl (fun K hK => ?_) AllReady.nil
      go_simp
      refine hK _ _ ?_; clear hK K
      refine wpAny_done (by kernel_rfl) ?_ _
      refine ⟨(KeepX.drew _ _ W).trans (KeepX.setCell _ _ (by rintro (h | h | h | h) <;> omega) (fun h => by have := HX.out _ h; omega)), ⟨_, HBX.out.set _, S'', by rw [IntWalk.i64_left, hs1, hor], HS2.out⟩, HBv.out.drew.setCell (Nat.le_refl _) _, HMv.out.1, fun d hd => ⟨(HMv.out.2 d hd).1, ?_⟩⟩
      refine (Below.heap_setCell _ _ _ _ (fun e => ?_)).trans (HMv.out.2 d hd).2
      have h1 := (HMv.out.2 d hd).2
      rw [show d = w.heap.size from e, show W.heap[w.heap.size]? = _ from HBX.out] at h1
      cases h1
    case done =>
      rintro D X W hD hX hsz ⟨⟨_, hbx, S', rfl, hS'⟩, hBv, hMv⟩ hK
      have hDw := hX _ hD
      have HS2 := hidI (seen_new HS.out hS')
      have hS32 := mask_all2 h5 HO.out (show k + 1 ≤ n by omega) HS2.out
      have HBX := hidI hbx; have HBv := hidI hBv
      have HMv := hidI (show MarksOk w.heap.size (D :: Ds) W from ⟨List.nodup_cons.2 ⟨fun hm => by have := HDr.out D hm; omega, hMv.1⟩, fun d hd => by
        rcases List.mem_cons.1 hd with rfl | hd
        · exact ⟨by omega, hK⟩
        · exact hMv.2 d hd⟩)
      clear SQ HX4 HB4 HM4 hbe hD hX hS' hsz hbx hBv hMv hK hc
      go_wp2_with fail
      refine ⟨?_, ?measure⟩
      (repeat apply Exists.intro)
      refine ⟨?rel, rfl⟩
      case rel => exact ⟨k + 1, S', D :: Ds, by rw [← hm2.out]; go_num, by go_num, rfl, by omega, hS32, HS2, HBX, HBv, HMv⟩
      case measure => simp [intOf]; omega
end Go.Proofs.Ytmmggbcmailbiaa
