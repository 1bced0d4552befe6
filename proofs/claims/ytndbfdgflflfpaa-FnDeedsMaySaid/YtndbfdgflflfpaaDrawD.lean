/- The draws' deeds: l20Need, l20Deed. -/
import Derived.Test.YtndbfdgflflfpaaDraw
import Derived.Test.YtndbfdgflflfpaaDeed
import Derived.Deep.DeepFit
import Derived.Deep.RegionHeld3
import Derived.Outline
namespace Go.Proofs.Ytndbfdgflflfpaa
open Go.RowKit

set_option maxHeartbeats 2000000 in
theorem spec_l20Need (r N : Nat) (w : World) (h : RdOk w r N) (hN : N ≤ 850000) :
    Calls Try.prog 72 #[.pointer (some ⟨r, 0, none⟩)] w fun e w' => ∃ g n cap, e = .returned (.slice (some ⟨g, 0, none⟩) n cap) ∧ n ≤ 4 ∧ OutS w' w.heap.size g n cap ∧ RdOk w' r (N + 8) ∧ w.grownBy w' (some r) := by
  have HR := hidI h; have hlt := h.lt; clear h
  go_enter Try.func72, Try.ntmps72
  go_wp2_with fail
  refine (spec_pickI r N 4 _ HR.out (by omega) (by omega) (by omega)).mono ?_; rintro e w1 ⟨k1, rfl, hk1, rk1, gk1⟩
  have HR := hidI rk1; have HG := hidI gk1; have hs1 := gk1.size; clear rk1 gk1
  have b1 : ∀ o, Below w1.heap.size w1 (w1.alloc o) := fun o => (Below.refl _ _).alloc (Nat.le_refl _) o
  rcases Nat.lt_or_ge k1 1 with q0 | q0
  · obtain rfl : k1 = 0 := by omega
    have HO := hidI (OutS.new (w := w1) [5] (i64_one (i64_of (by omega) (by omega))) hs1 (by simp))
    go_wp2_with fail
    go_ret
    exact ⟨_, 1, 1, rfl, by omega, HO.out, (HR.out.below (b1 _)).mono (by omega), grown_trans HG.out (grown_alloc _ _ _)⟩
  rcases Nat.lt_or_ge k1 2 with q1 | q1
  · obtain rfl : k1 = 1 := by omega
    clear b1
    go_wp2_with fail
    refine (spec_pickI r (N + 1) 5 _ HR.out (by omega) (by omega) (by omega)).mono ?_; rintro e w2 ⟨k2, rfl, hk2, rk2, gk2⟩
    have HO := hidI (OutS.new (w := w2) (base := w.heap.size) [(k2 : Int)] (i64_one (i64_small (by omega))) (Nat.le_trans hs1 gk2.size) (by simp))
    have HG := hidI (grown_trans HG.out gk2)
    have HR := hidI rk2; clear rk2 gk2
    go_wp2_with fail
    go_ret
    exact ⟨_, 1, 1, rfl, by omega, HO.out, (HR.out.below ((Below.refl _ _).alloc (Nat.le_refl _) _)).mono (by omega), grown_trans HG.out (grown_alloc _ _ _)⟩
  rcases Nat.lt_or_ge k1 3 with q2 | q2
  · obtain rfl : k1 = 2 := by omega
    clear b1
    go_wp2_with fail
    refine (spec_pickI r (N + 1) 5 _ HR.out (by omega) (by omega) (by omega)).mono ?_; rintro e w2 ⟨k2, rfl, hk2, rk2, gk2⟩
    have HO := hidI (OutS.new (w := w2) (base := w.heap.size) [(k2 : Int), 7] (i64_two (i64_small (by omega)) (i64_of (by omega) (by omega))) (Nat.le_trans hs1 gk2.size) (by simp))
    have HG := hidI (grown_trans HG.out gk2)
    have HR := hidI rk2; clear rk2 gk2
    go_wp2_with fail
    go_ret
    exact ⟨_, 2, 2, rfl, by omega, HO.out, (HR.out.below ((Below.refl _ _).alloc (Nat.le_refl _) _)).mono (by omega), grown_trans HG.out (grown_alloc _ _ _)⟩
  · have q3 : (3 : Int) ≤ k1 := by omega
    clear b1
    go_wp2_with fail
    go_fit (spec_l20Leaf r (N + 1) w1 HR.out (by omega)); rintro e w2 ⟨g, n, cap, rfl, hn1, hn4, ho, hr, hg⟩
    go_wp2_with fail
    go_ret
    exact ⟨g, n, cap, rfl, hn4, OutS.base ho hs1, hr.mono (by omega), grown_trans HG.out hg⟩

/-- Block D holds a deed. -/
def DBlk (w : World) (D : Nat) (v : Value) (a b c : Int) : Prop := w.heap[D]? = some (.cells #[v, .int .i64 a, .int .i64 b, .int .i64 c] 46 (0, 0))

theorem DBlk.grown {w w' : World} {D r : Nat} {v : Value} {a b c : Int} (h : DBlk w D v a b c) (hg : w.grownBy w' (some r)) (hne : D ≠ r) : DBlk w' D v a b c :=
  (hg.block D (Array.getElem?_eq_some_iff.1 h).1 (fun e => by injection e; omega)).trans h

theorem DBlk.lt {w : World} {D : Nat} {v : Value} {a b c : Int} (h : DBlk w D v a b c) : D < w.heap.size := (Array.getElem?_eq_some_iff.1 h).1

theorem DBlk.cells {w : World} {D : Nat} {v : Value} {a b c : Int} (h : DBlk w D v a b c) : w.cell? ⟨D, 0, none⟩ = some v ∧ w.cell? ⟨D, 1, none⟩ = some (.int .i64 a) ∧ w.cell? ⟨D, 2, none⟩ = some (.int .i64 b) ∧ w.cell? ⟨D, 3, none⟩ = some (.int .i64 c) :=
  ⟨(blk_cell h 0).trans rfl, (blk_cell h 1).trans rfl, (blk_cell h 2).trans rfl, (blk_cell h 3).trans rfl⟩

theorem DBlk.set0 {w : World} {D : Nat} {v u : Value} {a b c : Int} (h : DBlk w D v a b c) : DBlk (w.setCell ⟨D, 0, none⟩ u) D u a b c := by
  have := blk_set h 0 u; exact this.trans rfl
theorem DBlk.set1 {w : World} {D : Nat} {v : Value} {a b c x : Int} (h : DBlk w D v a b c) : DBlk (w.setCell ⟨D, 1, none⟩ (.int .i64 x)) D v x b c := by
  have := blk_set h 1 (.int .i64 x); exact this.trans rfl
theorem DBlk.set2 {w : World} {D : Nat} {v : Value} {a b c x : Int} (h : DBlk w D v a b c) : DBlk (w.setCell ⟨D, 2, none⟩ (.int .i64 x)) D v a x c := by
  have := blk_set h 2 (.int .i64 x); exact this.trans rfl
theorem DBlk.set3 {w : World} {D : Nat} {v : Value} {a b c x : Int} (h : DBlk w D v a b c) : DBlk (w.setCell ⟨D, 3, none⟩ (.int .i64 x)) D v a b x := by
  have := blk_set h 3 (.int .i64 x); exact this.trans rfl

/-- A number of a drawn deed. -/
def Few (z : Int) : Prop := -1 ≤ z ∧ z ≤ 200
theorem Few.i64 {z : Int} (h : Few z) : I64 z := by unfold Few at h; unfold I64; omega

theorem deed_out {w wo : World} {r M g n cap : Nat} {a b c : Int} (HO : OutS wo (w.heap.size + 1) g n cap) (HR : RdOk wo r M) (HG : w.grownBy wo (some r)) (hr : r < w.heap.size) (hn : n ≤ 4) (ha : Few a) (hb : Few b) (hc : Few c) :
    ∃ g' n' cap' a' b' c', Ending.returned (.agg #[.slice (some ⟨g, 0, none⟩) n cap, .int .i64 a, .int .i64 b, .int .i64 c]) = Ending.returned (.agg #[.slice (some ⟨g', 0, none⟩) n' cap', .int .i64 a', .int .i64 b', .int .i64 c']) ∧ n' ≤ 4 ∧
      OutS ((((wo.setCell ⟨w.heap.size, 0, none⟩ (.slice (some ⟨g, 0, none⟩) n cap)).setCell ⟨w.heap.size, 1, none⟩ (.int .i64 a)).setCell ⟨w.heap.size, 2, none⟩ (.int .i64 b)).setCell ⟨w.heap.size, 3, none⟩ (.int .i64 c)) w.heap.size g' n' cap' ∧ Few a' ∧ Few b' ∧ Few c' ∧
      RdOk ((((wo.setCell ⟨w.heap.size, 0, none⟩ (.slice (some ⟨g, 0, none⟩) n cap)).setCell ⟨w.heap.size, 1, none⟩ (.int .i64 a)).setCell ⟨w.heap.size, 2, none⟩ (.int .i64 b)).setCell ⟨w.heap.size, 3, none⟩ (.int .i64 c)) r M ∧
      w.grownBy ((((wo.setCell ⟨w.heap.size, 0, none⟩ (.slice (some ⟨g, 0, none⟩) n cap)).setCell ⟨w.heap.size, 1, none⟩ (.int .i64 a)).setCell ⟨w.heap.size, 2, none⟩ (.int .i64 b)).setCell ⟨w.heap.size, 3, none⟩ (.int .i64 c)) (some r) := by
  have h4 := grown_trans (grown_trans (grown_trans (grown_setCell wo w.heap.size 0 (.slice (some ⟨g, 0, none⟩) n cap)) (grown_setCell _ w.heap.size 1 (.int .i64 a))) (grown_setCell _ w.heap.size 2 (.int .i64 b))) (grown_setCell _ w.heap.size 3 (.int .i64 c))
  have hl := HO.lt
  exact ⟨g, n, cap, a, b, c, rfl, hn, OutS.base (OutS.other HO h4 (by omega)) (by omega), ha, hb, hc, HR.grown h4 hr, grown_new HG h4 (Nat.le_refl _)⟩

set_option maxRecDepth 100000 in
set_option maxHeartbeats 4000000 in
theorem spec_l20Deed (r N : Nat) (m : Int) (w : World) (h : RdOk w r N) (hN : N ≤ 840000) (hm : 0 ≤ m) (hm2 : m ≤ 1000) :
    Calls Try.prog 73 #[.pointer (some ⟨r, 0, none⟩), .int .i64 m] w fun e w' => ∃ g n cap a b c, e = .returned (.agg #[.slice (some ⟨g, 0, none⟩) n cap, .int .i64 a, .int .i64 b, .int .i64 c]) ∧ n ≤ 4 ∧ OutS w' w.heap.size g n cap ∧ Few a ∧ Few b ∧ Few c ∧ RdOk w' r (N + 20) ∧ w.grownBy w' (some r) := by
  have HR := hidI h; have hlt := h.lt; clear h
  go_enter Try.func73, Try.ntmps73
  go_wp2_with fail
  have HV := hidI (show DBlk (w.alloc (.cells #[.slice none 0 0, .int .i64 0, .int .i64 0, .int .i64 0] 46)) w.heap.size (.slice none 0 0) 0 0 0 from heap_alloc_new w _)
  have HR := hidI (HR.out.below ((Below.refl _ _).alloc (Nat.le_refl _) (.cells #[.slice none 0 0, .int .i64 0, .int .i64 0, .int .i64 0] 46)))
  have HG := hidI (grown_alloc w (.cells #[.slice none 0 0, .int .i64 0, .int .i64 0, .int .i64 0] 46) (some r))
  have hsz0 : (w.alloc (.cells #[.slice none 0 0, .int .i64 0, .int .i64 0, .int .i64 0] 46)).heap.size = w.heap.size + 1 := by simp
  go_fit (spec_l20Need r N _ HR.out (by omega)); rintro e w1 ⟨g, n, cap, rfl, hn, ho, hr, hg⟩
  have hs1 := hg.size
  rw [hsz0] at ho hs1
  have hgl := ho.lt
  have HV := hidI (HV.out.grown hg (by omega)); have HO := hidI ho; have HR := hidI hr; have HG := hidI (grown_trans HG.out hg)
  clear ho hr hg hsz0
  go_wp2_with fail
  have HV := hidI ((grown_alloc w1 (.cells #[.slice (some ⟨g, 0, none⟩) n cap, .int .i64 0, .int .i64 0, .int .i64 0] 46) (some r)).block w.heap.size (by omega) (fun e => by injection e; omega) |>.trans HV.out)
  have HO := hidI (HO.out.alloc (.cells #[.slice (some ⟨g, 0, none⟩) n cap, .int .i64 0, .int .i64 0, .int .i64 0] 46))
  have HR := hidI (HR.out.below ((Below.refl _ _).alloc (Nat.le_refl _) (.cells #[.slice (some ⟨g, 0, none⟩) n cap, .int .i64 0, .int .i64 0, .int .i64 0] 46)))
  have HG := hidI (grown_trans HG.out (grown_alloc w1 (.cells #[.slice (some ⟨g, 0, none⟩) n cap, .int .i64 0, .int .i64 0, .int .i64 0] 46) (some r)))
  have HD := hidI (show DBlk (w1.alloc (.cells #[.slice (some ⟨g, 0, none⟩) n cap, .int .i64 0, .int .i64 0, .int .i64 0] 46)) w1.heap.size (.slice (some ⟨g, 0, none⟩) n cap) 0 0 0 from heap_alloc_new w1 _)
  obtain ⟨wd, hwd⟩ : ∃ wd, wd = w1.alloc (.cells #[.slice (some ⟨g, 0, none⟩) n cap, .int .i64 0, .int .i64 0, .int .i64 0] 46) := ⟨_, rfl⟩
  obtain ⟨D, hD⟩ : ∃ D, D = w1.heap.size := ⟨_, rfl⟩
  rw [← hwd] at HV HO HR HG HD ⊢
  rw [← hD] at HD hs1 hgl ⊢
  clear hwd hD
  go_loopw [6] (fun i wr => ∃ k M A B C : Nat, k ≤ 5 ∧ i = .int .i64 k ∧ M ≤ N + 8 + k ∧ A ≤ 32 * k ∧ B ≤ 32 * k ∧ C ≤ 32 * k ∧ Hid (DBlk wr D (.slice (some ⟨g, 0, none⟩) n cap) A B C) ∧ Hid (DBlk wr w.heap.size (.slice none 0 0) 0 0 0) ∧ Hid (OutS wr (w.heap.size + 1) g n cap) ∧ Hid (RdOk wr r M) ∧ Hid (w.grownBy wr (some r))) (fun i _ => 5 - (intOf i).toNat)
  case atStart => exact ⟨0, N + 8, 0, 0, 0, by omega, rfl, by omega, by omega, by omega, by omega, HD, HV, HO, HR, HG⟩
  case round =>
    clear HV HO HR HG HD
    obtain ⟨k, M, A, B, C, hk, rfl, hM, hA, hB, hC, HD, HV, HO, HR, HG⟩ := hrel
    rcases Nat.lt_or_ge k 5 with hk5 | hk5
    · go_wp2_with fail
      refine (spec_pickI r M 6 _ HR.out (by omega) (by omega) (by omega)).mono ?_; rintro e w2 ⟨k2, rfl, hk2, r2, g2⟩
      have HG := hidI (grown_trans HG.out g2)
      have HD := hidI (HD.out.grown g2 (by omega)); have HV := hidI (HV.out.grown g2 (by omega)); have HO := hidI (HO.out.grown g2 (by omega)); have HR := hidI r2; clear r2 g2
      obtain ⟨d0, d1, d2, d3⟩ := HD.out.cells
      rcases Nat.lt_or_ge k2 1 with q0 | q0
      · obtain rfl : k2 = 0 := by omega
        have hs := shl1 (n := k) (by omega)
        have hp := pow_lt32 (n := k) (by omega)
        obtain ⟨P, hP⟩ : ∃ P : Nat, P = 2 ^ k := ⟨_, rfl⟩
        rw [← hP] at hs hp
        clear hP
        have hfz := blk_frozen HD.out 1
        have hgs := grown_setCell w2 D 1 (.int .i64 ((A : Int) + (P : Int)))
        have HG := hidI (grown_new HG.out hgs (by omega))
        have HO := hidI (HO.out.other hgs (by omega))
        have HV := hidI (HV.out.grown hgs (by omega))
        have HR := hidI (HR.out.grown hgs (by omega))
        have HD := hidI (HD.out.set1 (x := ((A : Int) + (P : Int))))
        rw [← Int.natCast_add] at HD
        clear hgs
        go_wp2_with fail
        have hA9 : A ≤ 200 := by omega
        have JM := hidI hM; have JA := hidI hA; have JB := hidI hB; have JC := hidI hC; have Jl := hidI hgl; have J1 := hidI hs1; have Jn := hidI hn; have JN := hidI hN; have Jk := hidI hk; have Jt := hidI hlt
        clear hM hA hB hC hgl hs1 hn hN hk hlt hm hm2 q0
        go_region
        go_wp2_with fail
        have hM := JM.out; have hA := JA.out; have hB := JB.out; have hC := JC.out; have hk := Jk.out
        go_roundw
        case rel => exact ⟨k + 1, M + 1, A + P, B, C, by omega, by go_num, by omega, by omega, by omega, by omega, hidI (HD.out.grown (r := r) ⟨rfl, rfl, rfl, Nat.le_refl _, fun _ _ _ => rfl⟩ (by have := Jl.out; have := Jt.out; omega)), hidI (HV.out.grown (r := r) ⟨rfl, rfl, rfl, Nat.le_refl _, fun _ _ _ => rfl⟩ (by have := Jt.out; omega)), hidI (HO.out.grown (r := r) ⟨rfl, rfl, rfl, Nat.le_refl _, fun _ _ _ => rfl⟩ (by have := Jt.out; omega)), hidI (HR.out.below (Below.refl _ _).drew), hidI (grown_trans HG.out ⟨rfl, rfl, rfl, Nat.le_refl _, fun _ _ _ => rfl⟩)⟩
        case measure => simp [intOf]; omega
      rcases Nat.lt_or_ge k2 2 with q1 | q1
      · obtain rfl : k2 = 1 := by omega
        have hs := shl1 (n := k) (by omega)
        have hp := pow_lt32 (n := k) (by omega)
        obtain ⟨P, hP⟩ : ∃ P : Nat, P = 2 ^ k := ⟨_, rfl⟩
        rw [← hP] at hs hp
        clear hP
        have hfz := blk_frozen HD.out 2
        have hgs := grown_setCell w2 D 2 (.int .i64 ((B : Int) + (P : Int)))
        have HG := hidI (grown_new HG.out hgs (by omega))
        have HO := hidI (HO.out.other hgs (by omega))
        have HV := hidI (HV.out.grown hgs (by omega))
        have HR := hidI (HR.out.grown hgs (by omega))
        have HD := hidI (HD.out.set2 (x := ((B : Int) + (P : Int))))
        rw [← Int.natCast_add] at HD
        clear hgs
        go_wp2_with fail
        have hA9 : B ≤ 200 := by omega
        have JM := hidI hM; have JA := hidI hA; have JB := hidI hB; have JC := hidI hC; have Jl := hidI hgl; have J1 := hidI hs1; have Jn := hidI hn; have JN := hidI hN; have Jk := hidI hk; have Jt := hidI hlt
        clear hM hA hB hC hgl hs1 hn hN hk hlt hm hm2 q0
        go_region
        go_wp2_with fail
        have hM := JM.out; have hA := JA.out; have hB := JB.out; have hC := JC.out; have hk := Jk.out
        go_roundw
        case rel => exact ⟨k + 1, M + 1, A, B + P, C, by omega, by go_num, by omega, by omega, by omega, by omega, hidI (HD.out.grown (r := r) ⟨rfl, rfl, rfl, Nat.le_refl _, fun _ _ _ => rfl⟩ (by have := Jl.out; have := Jt.out; omega)), hidI (HV.out.grown (r := r) ⟨rfl, rfl, rfl, Nat.le_refl _, fun _ _ _ => rfl⟩ (by have := Jt.out; omega)), hidI (HO.out.grown (r := r) ⟨rfl, rfl, rfl, Nat.le_refl _, fun _ _ _ => rfl⟩ (by have := Jt.out; omega)), hidI (HR.out.below (Below.refl _ _).drew), hidI (grown_trans HG.out ⟨rfl, rfl, rfl, Nat.le_refl _, fun _ _ _ => rfl⟩)⟩
        case measure => simp [intOf]; omega
      rcases Nat.lt_or_ge k2 3 with q2 | q2
      · obtain rfl : k2 = 2 := by omega
        have hs := shl1 (n := k) (by omega)
        have hp := pow_lt32 (n := k) (by omega)
        obtain ⟨P, hP⟩ : ∃ P : Nat, P = 2 ^ k := ⟨_, rfl⟩
        rw [← hP] at hs hp
        clear hP
        have hfz := blk_frozen HD.out 3
        have hgs := grown_setCell w2 D 3 (.int .i64 ((C : Int) + (P : Int)))
        have HG := hidI (grown_new HG.out hgs (by omega))
        have HO := hidI (HO.out.other hgs (by omega))
        have HV := hidI (HV.out.grown hgs (by omega))
        have HR := hidI (HR.out.grown hgs (by omega))
        have HD := hidI (HD.out.set3 (x := ((C : Int) + (P : Int))))
        rw [← Int.natCast_add] at HD
        clear hgs
        go_wp2_with fail
        have hA9 : C ≤ 200 := by omega
        have JM := hidI hM; have JA := hidI hA; have JB := hidI hB; have JC := hidI hC; have Jl := hidI hgl; have J1 := hidI hs1; have Jn := hidI hn; have JN := hidI hN; have Jk := hidI hk; have Jt := hidI hlt
        clear hM hA hB hC hgl hs1 hn hN hk hlt hm hm2 q0
        go_region
        go_wp2_with fail
        have hM := JM.out; have hA := JA.out; have hB := JB.out; have hC := JC.out; have hk := Jk.out
        go_roundw
        case rel => exact ⟨k + 1, M + 1, A, B, C + P, by omega, by go_num, by omega, by omega, by omega, by omega, hidI (HD.out.grown (r := r) ⟨rfl, rfl, rfl, Nat.le_refl _, fun _ _ _ => rfl⟩ (by have := Jl.out; have := Jt.out; omega)), hidI (HV.out.grown (r := r) ⟨rfl, rfl, rfl, Nat.le_refl _, fun _ _ _ => rfl⟩ (by have := Jt.out; omega)), hidI (HO.out.grown (r := r) ⟨rfl, rfl, rfl, Nat.le_refl _, fun _ _ _ => rfl⟩ (by have := Jt.out; omega)), hidI (HR.out.below (Below.refl _ _).drew), hidI (grown_trans HG.out ⟨rfl, rfl, rfl, Nat.le_refl _, fun _ _ _ => rfl⟩)⟩
        case measure => simp [intOf]; omega
      · have q3 : (3 : Int) ≤ k2 := by omega
        go_wp2_with fail
        go_roundw
        case rel => exact ⟨k + 1, M + 1, A, B, C, by omega, by go_num, by omega, by omega, by omega, by omega, HD, HV, HO, HR, HG⟩
        case measure => simp [intOf]; omega
    · obtain rfl : k = 5 := by omega
      go_wp2_with fail
      refine (spec_odd r M m _ HR.out (by omega) hm (by omega)).mono ?_; rintro e wo ⟨b, rfl, ro, go, _⟩
      have HG := hidI (grown_trans HG.out go)
      have HD := hidI (HD.out.grown go (by omega)); have HV := hidI (HV.out.grown go (by omega)); have HO := hidI (HO.out.grown go (by omega)); have HR := hidI ro; clear ro go
      cases b
      · obtain ⟨d0, d1, d2, d3⟩ := HD.out.cells
        obtain ⟨v0, v1, v2, v3⟩ := HV.out.cells
        have z0 := blk_frozen HV.out 0; have z1 := blk_frozen HV.out 1; have z2 := blk_frozen HV.out 2; have z3 := blk_frozen HV.out 3
        go_wp2_with fail
        refine bodyPost_ret (v := .agg #[.slice (some ⟨g, 0, none⟩) n cap, .int .i64 A, .int .i64 B, .int .i64 C]) (by simp [results, Try.results73, go_sem, v0, v1, v2, v3]) rfl ?_
        exact deed_out HO.out (HR.out.mono (by omega)) HG.out hlt (by omega) (by unfold Few; omega) (by unfold Few; omega) (by unfold Few; omega)
      go_wp2_with fail
      refine (spec_pickI r (M + 1) 4 _ HR.out (by omega) (by omega) (by omega)).mono ?_; rintro e wp ⟨kq, rfl, hkq, rp, gp⟩
      have HG := hidI (grown_trans HG.out gp)
      have HD := hidI (HD.out.grown gp (by omega)); have HV := hidI (HV.out.grown gp (by omega)); have HO := hidI (HO.out.grown gp (by omega)); have HR := hidI rp; clear rp gp
      rcases Nat.lt_or_ge kq 1 with q0 | q0
      · obtain rfl : kq = 0 := by omega
        have hwp := HG.out.size
        have hDl := HD.out.lt
        have hO7 := OutS.new (w := wp) (base := w.heap.size + 1) [7] (i64_one (i64_of (by omega) (by omega))) (by omega) (by simp)
        have bwp := (Below.refl wp.heap.size wp).alloc (Nat.le_refl _) (.cells #[.int .i64 7] 3)
        have hgw := grown_alloc wp (.cells #[.int .i64 7] 3) (some r)
        have HD := hidI ((bwp.block D hDl).trans HD.out)
        have HV := hidI ((bwp.block w.heap.size (by omega)).trans HV.out)
        have HR := hidI (HR.out.below bwp)
        have HG := hidI (grown_trans HG.out hgw)
        have hd0 := (DBlk.cells HD.out).1
        have hf0 := blk_frozen HD.out 0
        have hgs := grown_setCell (wp.alloc (.cells #[.int .i64 7] 3)) D 0 (.slice (some ⟨wp.heap.size, 0, none⟩) 1 1)
        have HO := hidI (OutS.other hO7 hgs (by omega))
        have HV := hidI (DBlk.grown HV.out hgs (by omega))
        have HR := hidI (HR.out.grown hgs (by omega))
        have HG := hidI (grown_new HG.out hgs (by omega))
        have HD := hidI (DBlk.set0 (u := .slice (some ⟨wp.heap.size, 0, none⟩) 1 1) HD.out)
        clear hO7 bwp hgw hgs hwp hDl
        obtain ⟨d0, d1, d2, d3⟩ := HD.out.cells
        obtain ⟨v0, v1, v2, v3⟩ := HV.out.cells
        have z0 := blk_frozen HV.out 0; have z1 := blk_frozen HV.out 1; have z2 := blk_frozen HV.out 2; have z3 := blk_frozen HV.out 3
        go_wp2_with fail
        refine bodyPost_ret (v := .agg #[.slice (some ⟨wp.heap.size, 0, none⟩) 1 1, .int .i64 A, .int .i64 B, .int .i64 C]) (by simp [results, Try.results73, go_sem, v0, v1, v2, v3]) rfl ?_
        exact deed_out HO.out (HR.out.mono (by omega)) HG.out hlt (by omega) (by unfold Few; omega) (by unfold Few; omega) (by unfold Few; omega)
      rcases Nat.lt_or_ge kq 2 with q1 | q1
      · obtain rfl : kq = 1 := by omega
        have hd0 := (DBlk.cells HD.out).2.1
        have hf0 := blk_frozen HD.out 1
        have hgs := grown_setCell wp D 1 (.int .i64 32)
        have HO := hidI (HO.out.other hgs (by omega)); have HV := hidI (HV.out.grown hgs (by omega)); have HR := hidI (HR.out.grown hgs (by omega)); have HG := hidI (grown_new HG.out hgs (by omega)); have HD := hidI (HD.out.set1 (x := 32)); clear hgs
        obtain ⟨d0, d1, d2, d3⟩ := HD.out.cells
        obtain ⟨v0, v1, v2, v3⟩ := HV.out.cells
        have z0 := blk_frozen HV.out 0; have z1 := blk_frozen HV.out 1; have z2 := blk_frozen HV.out 2; have z3 := blk_frozen HV.out 3
        go_wp2_with fail
        refine bodyPost_ret (v := .agg #[.slice (some ⟨g, 0, none⟩) n cap, .int .i64 32, .int .i64 B, .int .i64 C]) (by simp [results, Try.results73, go_sem, v0, v1, v2, v3]) rfl ?_
        exact deed_out HO.out (HR.out.mono (by omega)) HG.out hlt (by omega) (by unfold Few; omega) (by unfold Few; omega) (by unfold Few; omega)
      rcases Nat.lt_or_ge kq 3 with q2 | q2
      · obtain rfl : kq = 2 := by omega
        have hd0 := (DBlk.cells HD.out).2.2.1
        have hf0 := blk_frozen HD.out 2
        have hgs := grown_setCell wp D 2 (.int .i64 (-1))
        have HO := hidI (HO.out.other hgs (by omega)); have HV := hidI (HV.out.grown hgs (by omega)); have HR := hidI (HR.out.grown hgs (by omega)); have HG := hidI (grown_new HG.out hgs (by omega)); have HD := hidI (HD.out.set2 (x := (-1))); clear hgs
        obtain ⟨d0, d1, d2, d3⟩ := HD.out.cells
        obtain ⟨v0, v1, v2, v3⟩ := HV.out.cells
        have z0 := blk_frozen HV.out 0; have z1 := blk_frozen HV.out 1; have z2 := blk_frozen HV.out 2; have z3 := blk_frozen HV.out 3
        go_wp2_with fail
        refine bodyPost_ret (v := .agg #[.slice (some ⟨g, 0, none⟩) n cap, .int .i64 A, .int .i64 (-1), .int .i64 C]) (by simp [results, Try.results73, go_sem, v0, v1, v2, v3]) rfl ?_
        exact deed_out HO.out (HR.out.mono (by omega)) HG.out hlt (by omega) (by unfold Few; omega) (by unfold Few; omega) (by unfold Few; omega)
      · have q3 : (3 : Int) ≤ kq := by omega
        obtain ⟨hd0, hd1, hd2, hd3⟩ := DBlk.cells HD.out
        have hf1 := blk_frozen HD.out 1
        have hf2 := blk_frozen HD.out 2
        have hf3 := blk_frozen HD.out 3
        have hgs := grown_setCell wp D 1 (.int .i64 1)
        have HO := hidI (HO.out.other hgs (by omega)); have HV := hidI (HV.out.grown hgs (by omega)); have HR := hidI (HR.out.grown hgs (by omega)); have HG := hidI (grown_new HG.out hgs (by omega)); have HD := hidI (HD.out.set1 (x := 1)); clear hgs
        have hgs := grown_setCell (wp.setCell ⟨D, 1, none⟩ (.int .i64 1)) D 3 (.int .i64 1)
        have HO := hidI (HO.out.other hgs (by omega)); have HV := hidI (HV.out.grown hgs (by omega)); have HR := hidI (HR.out.grown hgs (by omega)); have HG := hidI (grown_new HG.out hgs (by omega)); have HD := hidI (HD.out.set3 (x := 1)); clear hgs
        have hgs := grown_setCell ((wp.setCell ⟨D, 1, none⟩ (.int .i64 1)).setCell ⟨D, 3, none⟩ (.int .i64 1)) D 2 (.int .i64 0)
        have HO := hidI (HO.out.other hgs (by omega)); have HV := hidI (HV.out.grown hgs (by omega)); have HR := hidI (HR.out.grown hgs (by omega)); have HG := hidI (grown_new HG.out hgs (by omega)); have HD := hidI (HD.out.set2 (x := 0)); clear hgs
        obtain ⟨d0, d1, d2, d3⟩ := HD.out.cells
        obtain ⟨v0, v1, v2, v3⟩ := HV.out.cells
        have z0 := blk_frozen HV.out 0; have z1 := blk_frozen HV.out 1; have z2 := blk_frozen HV.out 2; have z3 := blk_frozen HV.out 3
        go_wp2_with fail
        refine bodyPost_ret (v := .agg #[.slice (some ⟨g, 0, none⟩) n cap, .int .i64 1, .int .i64 0, .int .i64 1]) (by simp [results, Try.results73, go_sem, v0, v1, v2, v3]) rfl ?_
        exact deed_out HO.out (HR.out.mono (by omega)) HG.out hlt (by omega) (by unfold Few; omega) (by unfold Few; omega) (by unfold Few; omega)


end Go.Proofs.Ytndbfdgflflfpaa
