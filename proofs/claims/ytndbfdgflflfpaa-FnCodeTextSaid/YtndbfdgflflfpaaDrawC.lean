/- The draws' codes: l20Code. -/
import Derived.Test.YtndbfdgflflfpaaDraw
import Derived.Outline
namespace Go.Proofs.Ytndbfdgflflfpaa
open Go.RowKit

def lenOf : Value → Nat
  | .slice _ n _ => n
  | _ => 0

set_option maxRecDepth 100000 in
set_option maxHeartbeats 4000000 in
theorem spec_l20Code (r N : Nat) (parts m : Int) (w : World) (h : RdOk w r N) (hN : N ≤ 800000) (hp : 0 ≤ parts) (hp2 : parts ≤ 10) (hm : 0 ≤ m) (hm2 : m ≤ 1000) :
    Calls Try.prog 56 #[.pointer (some ⟨r, 0, none⟩), .int .i64 parts, .int .i64 m] w fun e w' => ∃ g n cap, e = .returned (.slice (some ⟨g, 0, none⟩) n cap) ∧ n ≤ 60 ∧ OutS w' w.heap.size g n cap ∧ RdOk w' r (N + 200) ∧ w.grownBy w' (some r) := by
  have HR := hidI h; have hlt := h.lt; clear h
  go_enter Try.func56, Try.ntmps56
  go_wp2_with fail
  refine (spec_pickI r N 7 _ HR.out (by omega) (by omega) (by omega)).mono ?_; rintro e w1 ⟨k1, rfl, hk1, rk1, gk1⟩
  have s1 := gk1.size
  have ho := OutS.new (w := w1) [(k1 : Int)] (i64_one (i64_small (by omega))) s1 (by simp)
  have hr := rk1.below ((Below.refl _ _).alloc (Nat.le_refl _) (.cells #[.int .i64 (k1 : Int)] 3))
  have hg := grown_trans gk1 (grown_alloc w1 (.cells #[.int .i64 (k1 : Int)] 3) (some r))
  clear rk1 gk1 HR
  go_wp2_with fail
  simp only [List.map_cons, List.map_nil, List.length_cons, List.length_nil, Nat.zero_add] at ho
  obtain ⟨wa, hwa⟩ : ∃ wa, wa = w1.alloc (.cells #[.int .i64 (k1 : Int)] 3) := ⟨_, rfl⟩
  obtain ⟨g, hgg⟩ : ∃ g, g = w1.heap.size := ⟨_, rfl⟩
  rw [← hgg] at ho ⊢
  rw [← hwa] at ho hr hg ⊢
  clear hwa hgg
  have HO := hidI ho; have HR := hidI hr; have HG := hidI hg; clear ho hr hg s1
  have hpp : 1 ≤ parts + 1 := by omega
  refine (spec_pickI r (N + 1) (parts + 1) _ HR.out (by omega) (by omega) (by omega)).mono ?_; rintro e w2 ⟨K, rfl, hK, rK, gK⟩
  have HO := hidI (HO.out.grown gK hlt); have HR := hidI rK; have HG := hidI (grown_trans HG.out gK); clear gK rK
  go_wp2_with fail
  go_loopw [7, 8] (fun t i wr => ∃ k n g cap M : Nat, k ≤ K ∧ i = .int .i64 k ∧ t = .slice (some ⟨g, 0, none⟩) n cap ∧ n + 5 * k ≤ 1 + 5 * K ∧ M + 12 * k ≤ N + 2 + 12 * K ∧ Hid (OutS wr w.heap.size g n cap) ∧ Hid (RdOk wr r M) ∧ Hid (w.grownBy wr (some r)) ∧ 1 ≤ n) (fun _ i _ => (intOf i).toNat)
  case atStart => exact ⟨K, 1, g, 1, N + 2, by omega, rfl, rfl, by omega, by omega, HO, HR, HG, by omega⟩
  case round =>
    clear HO HR HG
    obtain ⟨k, n, g, cap, M, hk, rfl, rfl, hn, hM, HO, HR, HG, hn1⟩ := hrel
    rcases Nat.eq_zero_or_pos k with rfl | hk1
    rotate_left
    · have hk2 : (0 : Int) < k := by omega
      go_wp2_with fail
      refine (spec_pickI r M 4 _ HR.out (by omega) (by omega) (by omega)).mono ?_; rintro e w3 ⟨k3, rfl, hk3, rk3, gk3⟩
      have HO := hidI (HO.out.grown gk3 hlt); have HR := hidI rk3; have HG := hidI (grown_trans HG.out gk3); clear rk3 gk3
      rcases Nat.lt_or_ge k3 1 with h0 | h0
      · obtain rfl : k3 = 0 := by omega
        have hgl := HO.out.lt.1
        have HU : Hid (IntS (w3.alloc (.cells #[.int .i64 7] 3)) (.slice (some ⟨w3.heap.size, 0, none⟩) 1 1) [(7 : Int)]) := ints_new w3 [(7 : Int)] (i64_one (i64_of (by omega) (by omega))) (by simp)
        have hbs : w.heap.size ≤ (w3.alloc (.cells #[.int .i64 7] 3)).heap.size := by have := HG.out.size; simp; omega
        have hns : n + 1 ≤ 100000 := by omega
        go_wp2_with (at_builtin; refine wpList_appendO _ rfl _ _ rfl w.heap.size _ n _ _ [(7 : Int)] rfl rfl (HO.out.alloc _) HU.out hns hbs ?_)
        intro n2 g' cap' w' hn1 hn2 ho' hg'
        (try simp only [List.length_cons, List.length_nil, Nat.zero_add] at hn1 hn2)
        have HR := hidI ((HR.out.below ((Below.refl _ _).alloc (Nat.le_refl _) (.cells #[.int .i64 7] 3))).grown hg' (by omega)); have HG := hidI (grown_new (grown_trans HG.out (grown_alloc _ (.cells #[.int .i64 7] 3) _)) hg' hgl)
        have HO := hidI ho'; clear ho' hg' HU hbs hns hgl
        go_wp2_with fail
        have hns2 : True := trivial
        go_roundw
        case rel => exact ⟨k - 1, n2, _, _, _, by omega, by go_num, rfl, by omega, by omega, HO, HR, HG, by omega⟩
        case measure => simp [intOf]; omega
      rcases Nat.lt_or_ge k3 2 with h1 | h1
      · obtain rfl : k3 = 1 := by omega
        have hgq := HO.out.lt
        have hwq := HG.out.size
        have hrq : r < w3.heap.size := by omega
        have hgne : g ≠ w3.heap.size := by omega
        go_wp2_with fail
        refine (spec_l20Leaf r (M + 1) _ (HR.out.below ((Below.refl _ _).alloc (Nat.le_refl _) (.cells #[] 3))) (by omega)).mono ?_; rintro e w4 ⟨gl, nl, cl, rfl, hl1, hl4, ol, rl, gL⟩
        have HE := hidI ((OutS.new (w := w3) [] (by simp) (Nat.le_refl _) (by simp)).grown gL hrq)
        have HQ := hidI ((HO.out.alloc (.cells #[] 3)).grown gL hlt)
        have HR := hidI rl; have HG := hidI (grown_trans (grown_trans HG.out (grown_alloc w3 (.cells #[] 3) (some r))) gL)
        obtain ⟨ys, hys, iy⟩ := ol.ints
        have hns : 0 + ys.length ≤ 100000 := by omega
        have hbs : w3.heap.size ≤ w4.heap.size := by have := gL.size; simp at this; omega
        clear rl gL ol HO
        go_wp2_with (at_builtin; refine wpList_appendO _ rfl _ _ rfl w3.heap.size _ 0 _ _ ys rfl rfl HE.out iy hns hbs ?_)
        intro n5 g5 cap5 w5 hn1 hn2 ho5 hg5
        (try rw [hys] at hn1); (try rw [hys] at hn2)
        have HQ := hidI (HQ.out.other hg5 hgne)
        have HR := hidI (HR.out.grown hg5 hrq); have HG := hidI (grown_new HG.out hg5 hwq)
        obtain ⟨zs, hzs, iz⟩ := HQ.out.ints
        have HO := hidI (ho5.base hwq)
        clear ho5 hg5 hns hbs HE HQ iy
        have hgl := HO.out.lt.1
        have hbs : w.heap.size ≤ (w5).heap.size := HG.out.size
        have hns : n5 + n ≤ 100000 := by omega
        go_wp2_with (at_builtin; refine wpList_appendO _ rfl _ _ rfl w.heap.size _ n5 _ _ _ rfl rfl HO.out iz (by rw [hzs]; exact hns) hbs ?_)
        intro n6 g' cap' w' hn1 hn2 ho' hg'
        (try rw [hzs] at hn1); (try rw [hzs] at hn2)
        have HR := hidI (HR.out.grown hg' (by omega)); have HG := hidI (grown_new HG.out hg' hgl)
        have HO := hidI ho'; clear ho' hg' hbs hns hgl
        go_wp2_with fail
        refine (spec_pickI r _ 2 _ HR.out (by omega) (by omega) (by omega)).mono ?_; rintro e w7 ⟨k7, rfl, hk7, rk7, gk7⟩
        have HO := hidI (HO.out.grown gk7 hlt); have HR := hidI rk7; have HG := hidI (grown_trans HG.out gk7); clear rk7 gk7
        have hgl := HO.out.lt.1
        have HU : Hid (IntS (w7.alloc (.cells #[.int .i64 (8 + (k7 : Int))] 3)) (.slice (some ⟨w7.heap.size, 0, none⟩) 1 1) [8 + (k7 : Int)]) := ints_new w7 [8 + (k7 : Int)] (i64_one (i64_of (by omega) (by omega))) (by simp)
        have hbs : w.heap.size ≤ (w7.alloc (.cells #[.int .i64 (8 + (k7 : Int))] 3)).heap.size := by have := HG.out.size; simp; omega
        have hns : n6 + 1 ≤ 100000 := by omega
        go_wp2_with (at_builtin; refine wpList_appendO _ rfl _ _ rfl w.heap.size _ n6 _ _ [8 + (k7 : Int)] rfl rfl (HO.out.alloc _) HU.out hns hbs ?_)
        intro n8 g' cap' w' hn1 hn2 ho' hg'
        (try simp only [List.length_cons, List.length_nil, Nat.zero_add] at hn1 hn2)
        have HR := hidI ((HR.out.below ((Below.refl _ _).alloc (Nat.le_refl _) (.cells #[.int .i64 (8 + (k7 : Int))] 3))).grown hg' (by omega)); have HG := hidI (grown_new (grown_trans HG.out (grown_alloc _ (.cells #[.int .i64 (8 + (k7 : Int))] 3) _)) hg' hgl)
        have HO := hidI ho'; clear ho' hg' HU hbs hns hgl
        go_wp2_with fail
        have hns2 : True := trivial
        go_roundw
        case rel => exact ⟨k - 1, n8, _, _, _, by omega, by go_num, rfl, by omega, by omega, HO, HR, HG, by omega⟩
        case measure => simp [intOf]; omega
      · have h3 : (2 : Int) ≤ k3 := by omega
        go_wp2_with fail
        refine (spec_l20Leaf r (M + 1) _ HR.out (by omega)).mono ?_; rintro e w4 ⟨gl, nl, cl, rfl, hl1, hl4, ol, rl, gL⟩
        have HO := hidI (HO.out.grown gL hlt); have HR := hidI rl; have HG := hidI (grown_trans HG.out gL)
        obtain ⟨ys, hys, iy⟩ := ol.ints
        clear rl gL ol
        have hgl := HO.out.lt.1
        have hbs : w.heap.size ≤ (w4).heap.size := HG.out.size
        have hns : n + nl ≤ 100000 := by omega
        go_wp2_with (at_builtin; refine wpList_appendO _ rfl _ _ rfl w.heap.size _ n _ _ _ rfl rfl HO.out iy (by rw [hys]; exact hns) hbs ?_)
        intro n6 g' cap' w' hn1 hn2 ho' hg'
        (try rw [hys] at hn1); (try rw [hys] at hn2)
        have HR := hidI (HR.out.grown hg' (by omega)); have HG := hidI (grown_new HG.out hg' hgl)
        have HO := hidI ho'; clear ho' hg' hbs hns hgl
        go_wp2_with fail
        refine (spec_pickI r _ 2 _ HR.out (by omega) (by omega) (by omega)).mono ?_; rintro e w7 ⟨k7, rfl, hk7, rk7, gk7⟩
        have HO := hidI (HO.out.grown gk7 hlt); have HR := hidI rk7; have HG := hidI (grown_trans HG.out gk7); clear rk7 gk7
        have hgl := HO.out.lt.1
        have HU : Hid (IntS (w7.alloc (.cells #[.int .i64 (8 + (k7 : Int))] 3)) (.slice (some ⟨w7.heap.size, 0, none⟩) 1 1) [8 + (k7 : Int)]) := ints_new w7 [8 + (k7 : Int)] (i64_one (i64_of (by omega) (by omega))) (by simp)
        have hbs : w.heap.size ≤ (w7.alloc (.cells #[.int .i64 (8 + (k7 : Int))] 3)).heap.size := by have := HG.out.size; simp; omega
        have hns : n6 + 1 ≤ 100000 := by omega
        go_wp2_with (at_builtin; refine wpList_appendO _ rfl _ _ rfl w.heap.size _ n6 _ _ [8 + (k7 : Int)] rfl rfl (HO.out.alloc _) HU.out hns hbs ?_)
        intro n8 g' cap' w' hn1 hn2 ho' hg'
        (try simp only [List.length_cons, List.length_nil, Nat.zero_add] at hn1 hn2)
        have HR := hidI ((HR.out.below ((Below.refl _ _).alloc (Nat.le_refl _) (.cells #[.int .i64 (8 + (k7 : Int))] 3))).grown hg' (by omega)); have HG := hidI (grown_new (grown_trans HG.out (grown_alloc _ (.cells #[.int .i64 (8 + (k7 : Int))] 3) _)) hg' hgl)
        have HO := hidI ho'; clear ho' hg' HU hbs hns hgl
        go_wp2_with fail
        have hns2 : True := trivial
        go_roundw
        case rel => exact ⟨k - 1, n8, _, _, _, by omega, by go_num, rfl, by omega, by omega, HO, HR, HG, by omega⟩
        case measure => simp [intOf]; omega
    · rcases Nat.lt_or_ge 40 n with hn40 | hn40
      · go_wp2_with fail
        refine (spec_pickI r M 5 _ HR.out (by omega) (by omega) (by omega)).mono ?_; rintro e w1 ⟨k1, rfl, hk1, rk1, gk1⟩
        have HG := hidI (grown_trans HG.out gk1); clear gk1
        have ho := OutS.new (w := w1) [(k1 : Int)] (i64_one (i64_small (by omega))) HG.out.size (by simp)
        have hr := rk1.below ((Below.refl _ _).alloc (Nat.le_refl _) (.cells #[.int .i64 (k1 : Int)] 3))
        have hg := grown_trans HG.out (grown_alloc w1 (.cells #[.int .i64 (k1 : Int)] 3) (some r))
        have HO := hidI ho; have HR := hidI hr; have HG := hidI hg; clear ho hr hg rk1
        go_wp2_with fail
        refine (spec_odd r (M + 1) m _ HR.out (by omega) hm (by omega)).mono ?_; rintro e wo ⟨b, rfl, ro, go, _⟩
        have HO := hidI (HO.out.grown go hlt); have HR := hidI ro; have HG := hidI (grown_trans HG.out go); clear ro go
        cases b
        · go_wp2_with fail
          go_ret
          exact ⟨_, _, _, rfl, by omega, HO.out, HR.out.mono (by omega), HG.out⟩
        go_wp2_with fail
        refine (spec_pickI r ((M + 1) + 1) 5 _ HR.out (by omega) (by omega) (by omega)).mono ?_; rintro e wq ⟨kq, rfl, hkq, rkq, gkq⟩
        have HO := hidI (HO.out.grown gkq hlt); have HR := hidI rkq; have HG := hidI (grown_trans HG.out gkq); clear rkq gkq
        rcases Nat.lt_or_ge kq 1 with q0 | q0
        · obtain rfl : kq = 0 := by omega
          have ho := OutS.new (w := wq) (base := w.heap.size) [] (by simp) HG.out.size (by simp)
          have hr := HR.out.below ((Below.refl _ _).alloc (Nat.le_refl _) (.cells #[] 3))
          have hg := grown_trans HG.out (grown_alloc wq (.cells #[] 3) (some r))
          have HO := hidI ho; have HR := hidI hr; have HG := hidI hg; clear ho hr hg
          go_wp2_with fail
          go_ret
          exact ⟨_, _, _, rfl, by omega, HO.out, HR.out.mono (by omega), HG.out⟩
        rcases Nat.lt_or_ge kq 2 with q1 | q1
        · obtain rfl : kq = 1 := by omega
          go_wp2_with fail
          refine (spec_pickI r ((M + 1) + 2) 5 _ HR.out (by omega) (by omega) (by omega)).mono ?_; rintro e wr2 ⟨kr, rfl, hkr, rkr, gkr⟩
          have HO := hidI (HO.out.grown gkr hlt); have HR := hidI rkr; have HG := hidI (grown_trans HG.out gkr); clear rkr gkr
          have hgl := HO.out.lt.1
          have HU : Hid (IntS (wr2.alloc (.cells #[.int .i64 (kr : Int)] 3)) (.slice (some ⟨wr2.heap.size, 0, none⟩) 1 1) [(kr : Int)]) := ints_new wr2 [(kr : Int)] (i64_one (i64_small (by omega))) (by simp)
          have hbs : w.heap.size ≤ (wr2.alloc (.cells #[.int .i64 (kr : Int)] 3)).heap.size := by have := HG.out.size; simp; omega
          have hns : 1 + 1 ≤ 100000 := by omega
          go_wp2_with (at_builtin; refine wpList_appendO _ rfl _ _ rfl w.heap.size _ 1 _ _ [(kr : Int)] rfl rfl (HO.out.alloc _) HU.out hns hbs ?_)
          intro n9 g' cap' w' hn1 hn2 ho' hg'
          (try simp only [List.length_cons, List.length_nil, Nat.zero_add] at hn1 hn2)
          have HR := hidI ((HR.out.below ((Below.refl _ _).alloc (Nat.le_refl _) (.cells #[.int .i64 (kr : Int)] 3))).grown hg' (by omega)); have HG := hidI (grown_new (grown_trans HG.out (grown_alloc _ (.cells #[.int .i64 (kr : Int)] 3) _)) hg' hgl)
          have HO := hidI ho'; clear ho' hg' HU hbs hns hgl
          go_wp2_with fail
          go_ret
          exact ⟨_, _, _, rfl, by omega, HO.out, HR.out.mono (by omega), HG.out⟩
        rcases Nat.lt_or_ge kq 3 with q2 | q2
        · obtain rfl : kq = 2 := by omega
          obtain ⟨zs, hzs, iz⟩ := (HO.out.alloc (.cells #[.int .i64 8] 3)).ints
          have ho := OutS.new (w := wq) (base := w.heap.size) [8] (i64_one (i64_of (by omega) (by omega))) HG.out.size (by simp)
          have hr := HR.out.below ((Below.refl _ _).alloc (Nat.le_refl _) (.cells #[.int .i64 8] 3))
          have hg := grown_trans HG.out (grown_alloc wq (.cells #[.int .i64 8] 3) (some r))
          have HO := hidI ho; have HR := hidI hr; have HG := hidI hg; clear ho hr hg
          have hgl := HO.out.lt.1
          have hbs : w.heap.size ≤ ((wq.alloc (.cells #[.int .i64 8] 3))).heap.size := HG.out.size
          have hns : 1 + 1 ≤ 100000 := by omega
          go_wp2_with (at_builtin; refine wpList_appendO _ rfl _ _ rfl w.heap.size _ 1 _ _ _ rfl rfl HO.out iz (by rw [hzs]; exact hns) hbs ?_)
          intro n9 g' cap' w' hn1 hn2 ho' hg'
          (try rw [hzs] at hn1); (try rw [hzs] at hn2)
          have HR := hidI (HR.out.grown hg' (by omega)); have HG := hidI (grown_new HG.out hg' hgl)
          have HO := hidI ho'; clear ho' hg' hbs hns hgl
          go_wp2_with fail
          go_ret
          exact ⟨_, _, _, rfl, by omega, HO.out, HR.out.mono (by omega), HG.out⟩
        rcases Nat.lt_or_ge kq 4 with q3 | q3
        · obtain rfl : kq = 3 := by omega
          go_wp2_with fail
          have hrq : r < wq.heap.size := Nat.lt_of_lt_of_le hlt HG.out.size
          have hN := hidI (OutS.new (w := wq) (base := wq.heap.size) [-1, 10] (i64_two (by unfold I64; omega) (i64_of (by omega) (by omega))) (Nat.le_refl _) (by simp))
          have HO := hidI (HO.out.alloc (.cells #[.int .i64 (-1), .int .i64 10] 3)); have HR := hidI (HR.out.below ((Below.refl _ _).alloc (Nat.le_refl _) (.cells #[.int .i64 (-1), .int .i64 10] 3)))
          have HG := hidI (grown_trans HG.out (grown_alloc wq (.cells #[.int .i64 (-1), .int .i64 10] 3) (some r)))
          refine (spec_pickI r ((M + 1) + 2) 2 _ HR.out (by omega) (by omega) (by omega)).mono ?_; rintro e ws ⟨ks, rfl, hks, rks, gks⟩
          have hN := hidI (hN.out.grown gks hrq)
          have HO := hidI (HO.out.grown gks hlt); have HR := hidI rks; have HG := hidI (grown_trans HG.out gks); clear gks rks
          obtain ⟨⟨z, hz64, hzc⟩, hzf⟩ := hN.out.cell (i := ks) (by simp; omega)
          have hgl := HO.out.lt.1
          have HU : Hid (IntS (ws.alloc (.cells #[.int .i64 z] 3)) (.slice (some ⟨ws.heap.size, 0, none⟩) 1 1) [z]) := ints_new ws [z] (i64_one hz64) (by simp)
          have hbs : w.heap.size ≤ (ws.alloc (.cells #[.int .i64 z] 3)).heap.size := by have := HG.out.size; simp; omega
          have hns : 1 + 1 ≤ 100000 := by omega
          go_wp2_with (at_builtin; refine wpList_appendO _ rfl _ _ rfl w.heap.size _ 1 _ _ [z] rfl rfl (HO.out.alloc _) HU.out hns hbs ?_)
          intro n9 g' cap' w' hn1 hn2 ho' hg'
          (try simp only [List.length_cons, List.length_nil, Nat.zero_add] at hn1 hn2)
          have HR := hidI ((HR.out.below ((Below.refl _ _).alloc (Nat.le_refl _) (.cells #[.int .i64 z] 3))).grown hg' (by omega)); have HG := hidI (grown_new (grown_trans HG.out (grown_alloc _ (.cells #[.int .i64 z] 3) _)) hg' hgl)
          have HO := hidI ho'; clear ho' hg' HU hbs hns hgl
          go_wp2_with fail
          go_ret
          exact ⟨_, _, _, rfl, by omega, HO.out, HR.out.mono (by omega), HG.out⟩
        · have q4 : (4 : Int) ≤ kq := by omega
          have z0 : ((kq : Int) == 0) = false := by simp; omega
          have z1 : ((kq : Int) == 1) = false := by simp; omega
          have z2 : ((kq : Int) == 2) = false := by simp; omega
          have z3 : ((kq : Int) == 3) = false := by simp; omega
          go_wp2_with fail
          go_loopw [7] (fun t wr => ∃ n g cap : Nat, t = .slice (some ⟨g, 0, none⟩) n cap ∧ n ≤ 41 ∧ Hid (OutS wr w.heap.size g n cap) ∧ Hid (RdOk wr r ((M + 1) + 2)) ∧ Hid (w.grownBy wr (some r))) (fun t _ => 41 - lenOf t)
          case atStart => exact ⟨1, _, _, rfl, by omega, HO, HR, HG⟩
          case round =>
            clear HO HR HG
            obtain ⟨nz, gz, cz, rfl, hz41, HO, HR, HG⟩ := hrel
            rcases Nat.lt_or_ge 40 nz with hz40 | hz40
            · have hz40' : (40 : Int) < nz := by omega
              go_wp2_with fail
              go_ret
              exact ⟨_, _, _, rfl, by omega, HO.out, HR.out.mono (by omega), HG.out⟩
            · have hz40' : (nz : Int) ≤ 40 := by omega
              have hgl := HO.out.lt.1
              have HU : Hid (IntS (wr.alloc (.cells #[.int .i64 7] 3)) (.slice (some ⟨wr.heap.size, 0, none⟩) 1 1) [(7 : Int)]) := ints_new wr [(7 : Int)] (i64_one (i64_of (by omega) (by omega))) (by simp)
              have hbs : w.heap.size ≤ (wr.alloc (.cells #[.int .i64 7] 3)).heap.size := by have := HG.out.size; simp; omega
              have hns : nz + 1 ≤ 100000 := by omega
              go_wp2_with (at_builtin; refine wpList_appendO _ rfl _ _ rfl w.heap.size _ nz _ _ [(7 : Int)] rfl rfl (HO.out.alloc _) HU.out hns hbs ?_)
              intro n9 g' cap' w' hn1 hn2 ho' hg'
              (try simp only [List.length_cons, List.length_nil, Nat.zero_add] at hn1 hn2)
              have HR := hidI ((HR.out.below ((Below.refl _ _).alloc (Nat.le_refl _) (.cells #[.int .i64 7] 3))).grown hg' (by omega)); have HG := hidI (grown_new (grown_trans HG.out (grown_alloc _ (.cells #[.int .i64 7] 3) _)) hg' hgl)
              have HO := hidI ho'; clear ho' hg' HU hbs hns hgl
              go_wp2_with fail
              go_roundw
              case rel => first | exact ⟨n9, _, _, rfl, by omega, HO, HR, HG⟩ | exact ⟨_, _, _, _, _, _, _, ⟨n9, _, _, rfl, by omega, HO, HR, HG⟩, rfl⟩
              case measure => simp [lenOf]; omega
      · go_wp2_with fail
        refine (spec_odd r M m _ HR.out (by omega) hm (by omega)).mono ?_; rintro e wo ⟨b, rfl, ro, go, _⟩
        have HO := hidI (HO.out.grown go hlt); have HR := hidI ro; have HG := hidI (grown_trans HG.out go); clear ro go
        cases b
        · go_wp2_with fail
          go_ret
          exact ⟨_, _, _, rfl, by omega, HO.out, HR.out.mono (by omega), HG.out⟩
        go_wp2_with fail
        refine (spec_pickI r (M + 1) 5 _ HR.out (by omega) (by omega) (by omega)).mono ?_; rintro e wq ⟨kq, rfl, hkq, rkq, gkq⟩
        have HO := hidI (HO.out.grown gkq hlt); have HR := hidI rkq; have HG := hidI (grown_trans HG.out gkq); clear rkq gkq
        rcases Nat.lt_or_ge kq 1 with q0 | q0
        · obtain rfl : kq = 0 := by omega
          have ho := OutS.new (w := wq) (base := w.heap.size) [] (by simp) HG.out.size (by simp)
          have hr := HR.out.below ((Below.refl _ _).alloc (Nat.le_refl _) (.cells #[] 3))
          have hg := grown_trans HG.out (grown_alloc wq (.cells #[] 3) (some r))
          have HO := hidI ho; have HR := hidI hr; have HG := hidI hg; clear ho hr hg
          go_wp2_with fail
          go_ret
          exact ⟨_, _, _, rfl, by omega, HO.out, HR.out.mono (by omega), HG.out⟩
        rcases Nat.lt_or_ge kq 2 with q1 | q1
        · obtain rfl : kq = 1 := by omega
          go_wp2_with fail
          refine (spec_pickI r (M + 2) 5 _ HR.out (by omega) (by omega) (by omega)).mono ?_; rintro e wr2 ⟨kr, rfl, hkr, rkr, gkr⟩
          have HO := hidI (HO.out.grown gkr hlt); have HR := hidI rkr; have HG := hidI (grown_trans HG.out gkr); clear rkr gkr
          have hgl := HO.out.lt.1
          have HU : Hid (IntS (wr2.alloc (.cells #[.int .i64 (kr : Int)] 3)) (.slice (some ⟨wr2.heap.size, 0, none⟩) 1 1) [(kr : Int)]) := ints_new wr2 [(kr : Int)] (i64_one (i64_small (by omega))) (by simp)
          have hbs : w.heap.size ≤ (wr2.alloc (.cells #[.int .i64 (kr : Int)] 3)).heap.size := by have := HG.out.size; simp; omega
          have hns : n + 1 ≤ 100000 := by omega
          go_wp2_with (at_builtin; refine wpList_appendO _ rfl _ _ rfl w.heap.size _ n _ _ [(kr : Int)] rfl rfl (HO.out.alloc _) HU.out hns hbs ?_)
          intro n9 g' cap' w' hn1 hn2 ho' hg'
          (try simp only [List.length_cons, List.length_nil, Nat.zero_add] at hn1 hn2)
          have HR := hidI ((HR.out.below ((Below.refl _ _).alloc (Nat.le_refl _) (.cells #[.int .i64 (kr : Int)] 3))).grown hg' (by omega)); have HG := hidI (grown_new (grown_trans HG.out (grown_alloc _ (.cells #[.int .i64 (kr : Int)] 3) _)) hg' hgl)
          have HO := hidI ho'; clear ho' hg' HU hbs hns hgl
          go_wp2_with fail
          go_ret
          exact ⟨_, _, _, rfl, by omega, HO.out, HR.out.mono (by omega), HG.out⟩
        rcases Nat.lt_or_ge kq 3 with q2 | q2
        · obtain rfl : kq = 2 := by omega
          obtain ⟨zs, hzs, iz⟩ := (HO.out.alloc (.cells #[.int .i64 8] 3)).ints
          have ho := OutS.new (w := wq) (base := w.heap.size) [8] (i64_one (i64_of (by omega) (by omega))) HG.out.size (by simp)
          have hr := HR.out.below ((Below.refl _ _).alloc (Nat.le_refl _) (.cells #[.int .i64 8] 3))
          have hg := grown_trans HG.out (grown_alloc wq (.cells #[.int .i64 8] 3) (some r))
          have HO := hidI ho; have HR := hidI hr; have HG := hidI hg; clear ho hr hg
          have hgl := HO.out.lt.1
          have hbs : w.heap.size ≤ ((wq.alloc (.cells #[.int .i64 8] 3))).heap.size := HG.out.size
          have hns : 1 + n ≤ 100000 := by omega
          go_wp2_with (at_builtin; refine wpList_appendO _ rfl _ _ rfl w.heap.size _ 1 _ _ _ rfl rfl HO.out iz (by rw [hzs]; exact hns) hbs ?_)
          intro n9 g' cap' w' hn1 hn2 ho' hg'
          (try rw [hzs] at hn1); (try rw [hzs] at hn2)
          have HR := hidI (HR.out.grown hg' (by omega)); have HG := hidI (grown_new HG.out hg' hgl)
          have HO := hidI ho'; clear ho' hg' hbs hns hgl
          go_wp2_with fail
          go_ret
          exact ⟨_, _, _, rfl, by omega, HO.out, HR.out.mono (by omega), HG.out⟩
        rcases Nat.lt_or_ge kq 4 with q3 | q3
        · obtain rfl : kq = 3 := by omega
          go_wp2_with fail
          have hrq : r < wq.heap.size := Nat.lt_of_lt_of_le hlt HG.out.size
          have hN := hidI (OutS.new (w := wq) (base := wq.heap.size) [-1, 10] (i64_two (by unfold I64; omega) (i64_of (by omega) (by omega))) (Nat.le_refl _) (by simp))
          have HO := hidI (HO.out.alloc (.cells #[.int .i64 (-1), .int .i64 10] 3)); have HR := hidI (HR.out.below ((Below.refl _ _).alloc (Nat.le_refl _) (.cells #[.int .i64 (-1), .int .i64 10] 3)))
          have HG := hidI (grown_trans HG.out (grown_alloc wq (.cells #[.int .i64 (-1), .int .i64 10] 3) (some r)))
          refine (spec_pickI r (M + 2) 2 _ HR.out (by omega) (by omega) (by omega)).mono ?_; rintro e ws ⟨ks, rfl, hks, rks, gks⟩
          have hN := hidI (hN.out.grown gks hrq)
          have HO := hidI (HO.out.grown gks hlt); have HR := hidI rks; have HG := hidI (grown_trans HG.out gks); clear gks rks
          obtain ⟨⟨z, hz64, hzc⟩, hzf⟩ := hN.out.cell (i := ks) (by simp; omega)
          have hgl := HO.out.lt.1
          have HU : Hid (IntS (ws.alloc (.cells #[.int .i64 z] 3)) (.slice (some ⟨ws.heap.size, 0, none⟩) 1 1) [z]) := ints_new ws [z] (i64_one hz64) (by simp)
          have hbs : w.heap.size ≤ (ws.alloc (.cells #[.int .i64 z] 3)).heap.size := by have := HG.out.size; simp; omega
          have hns : n + 1 ≤ 100000 := by omega
          go_wp2_with (at_builtin; refine wpList_appendO _ rfl _ _ rfl w.heap.size _ n _ _ [z] rfl rfl (HO.out.alloc _) HU.out hns hbs ?_)
          intro n9 g' cap' w' hn1 hn2 ho' hg'
          (try simp only [List.length_cons, List.length_nil, Nat.zero_add] at hn1 hn2)
          have HR := hidI ((HR.out.below ((Below.refl _ _).alloc (Nat.le_refl _) (.cells #[.int .i64 z] 3))).grown hg' (by omega)); have HG := hidI (grown_new (grown_trans HG.out (grown_alloc _ (.cells #[.int .i64 z] 3) _)) hg' hgl)
          have HO := hidI ho'; clear ho' hg' HU hbs hns hgl
          go_wp2_with fail
          go_ret
          exact ⟨_, _, _, rfl, by omega, HO.out, HR.out.mono (by omega), HG.out⟩
        · have q4 : (4 : Int) ≤ kq := by omega
          have z0 : ((kq : Int) == 0) = false := by simp; omega
          have z1 : ((kq : Int) == 1) = false := by simp; omega
          have z2 : ((kq : Int) == 2) = false := by simp; omega
          have z3 : ((kq : Int) == 3) = false := by simp; omega
          go_wp2_with fail
          go_loopw [7] (fun t wr => ∃ n g cap : Nat, t = .slice (some ⟨g, 0, none⟩) n cap ∧ n ≤ 41 ∧ Hid (OutS wr w.heap.size g n cap) ∧ Hid (RdOk wr r (M + 2)) ∧ Hid (w.grownBy wr (some r))) (fun t _ => 41 - lenOf t)
          case atStart => exact ⟨n, _, _, rfl, by omega, HO, HR, HG⟩
          case round =>
            clear HO HR HG
            obtain ⟨nz, gz, cz, rfl, hz41, HO, HR, HG⟩ := hrel
            rcases Nat.lt_or_ge 40 nz with hz40 | hz40
            · have hz40' : (40 : Int) < nz := by omega
              go_wp2_with fail
              go_ret
              exact ⟨_, _, _, rfl, by omega, HO.out, HR.out.mono (by omega), HG.out⟩
            · have hz40' : (nz : Int) ≤ 40 := by omega
              have hgl := HO.out.lt.1
              have HU : Hid (IntS (wr.alloc (.cells #[.int .i64 7] 3)) (.slice (some ⟨wr.heap.size, 0, none⟩) 1 1) [(7 : Int)]) := ints_new wr [(7 : Int)] (i64_one (i64_of (by omega) (by omega))) (by simp)
              have hbs : w.heap.size ≤ (wr.alloc (.cells #[.int .i64 7] 3)).heap.size := by have := HG.out.size; simp; omega
              have hns : nz + 1 ≤ 100000 := by omega
              go_wp2_with (at_builtin; refine wpList_appendO _ rfl _ _ rfl w.heap.size _ nz _ _ [(7 : Int)] rfl rfl (HO.out.alloc _) HU.out hns hbs ?_)
              intro n9 g' cap' w' hn1 hn2 ho' hg'
              (try simp only [List.length_cons, List.length_nil, Nat.zero_add] at hn1 hn2)
              have HR := hidI ((HR.out.below ((Below.refl _ _).alloc (Nat.le_refl _) (.cells #[.int .i64 7] 3))).grown hg' (by omega)); have HG := hidI (grown_new (grown_trans HG.out (grown_alloc _ (.cells #[.int .i64 7] 3) _)) hg' hgl)
              have HO := hidI ho'; clear ho' hg' HU hbs hns hgl
              go_wp2_with fail
              go_roundw
              case rel => first | exact ⟨n9, _, _, rfl, by omega, HO, HR, HG⟩ | exact ⟨_, _, _, _, _, _, _, ⟨n9, _, _, rfl, by omega, HO, HR, HG⟩, rfl⟩
              case measure => simp [lenOf]; omega
end Go.Proofs.Ytndbfdgflflfpaa
