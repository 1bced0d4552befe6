/- The laws' fixed answer: alive. -/
import Derived.Test.YtmmggbcmailbiaaRows
import Derived.Test.YtmmggbcmailbiaaBits
import Derived.Test.YtmmggbcmailbiaaOwn
import Derived.Deep.OwnRows
import Derived.Deep.QuietTactic
import Derived.BigQuiet
import Derived.Deep.DeepFit
import Derived.Outline
namespace Go.Proofs.Ytmmggbcmailbiaa
open Go.RowKit

def Blk (w : World) (g : Nat) (c : List Int) : Prop := w.heap[g]? = some (.cells (c.map (Value.int .i64)).toArray 3 (0, 0))

theorem Blk.cell {w : World} {g : Nat} {c : List Int} (h : Blk w g c) {i : Nat} {z : Int} (hi : c[i]? = some z) : w.cell? ⟨g, i, none⟩ = some (.int .i64 z) ∧ w.frozen? ⟨g, i, none⟩ = false :=
  ⟨(blk_cell h i).trans (by simp [hi]), blk_frozen h i⟩
theorem Blk.put {w : World} {g : Nat} {c : List Int} (h : Blk w g c) (i : Nat) (z : Int) : Blk (w.setCell ⟨g, i, none⟩ (.int .i64 z)) g (c.set i z) := by
  have := blk_set h i (.int .i64 z)
  unfold Blk; rw [this]; simp [List.map_set]
theorem Blk.grown {w w' : World} {g : Nat} {c : List Int} (h : Blk w g c) (hb : Below w.heap.size w w') : Blk w' g c := (hb.block g (Array.getElem?_eq_some_iff.1 h).1).trans h

set_option maxHeartbeats 400000 in
theorem impl_joinPoints (g a b x y : Nat) (c : List Int) (w : World) (h : Blk w g c) (hc : c.length = 4) (ha : a < 4) (hb : b < 4) (hab : a ≠ b) (hx : c[a]? = some (x : Int)) (hy : c[b]? = some (y : Int)) (hx2 : x < 16) (hy2 : y < 16) :
    Calls Try.prog 93 #[.slice (some ⟨g, 0, none⟩) 4 4, .int .i64 a, .int .i64 b] w fun e w' => e = .returned (.tuple #[]) ∧ Blk w' g ((c.set a ((x ||| 2 ^ b : Nat) : Int)).set b ((y ||| 2 ^ a : Nat) : Int)) ∧ (∀ B, B ≤ g → ∀ W, Below B W w → Below B W w') ∧ w.heap.size = w'.heap.size := by
  obtain ⟨ca, fa⟩ := h.cell hx
  obtain ⟨cb, fb⟩ := h.cell hy
  have s1 := shl1 (n := a) (by omega)
  have s2 := shl1 (n := b) (by omega)
  have p1 : 2 ^ a < 4294967296 := pow_lt2_32 (by omega)
  have p2 : 2 ^ b < 4294967296 := pow_lt2_32 (by omega)
  have HH := hidI (h.put a ((x ||| 2 ^ b : Nat) : Int) |>.put b ((y ||| 2 ^ a : Nat) : Int))
  obtain ⟨A, hA⟩ : ∃ A : Nat, A = 2 ^ a := ⟨_, rfl⟩
  obtain ⟨B, hB⟩ : ∃ B : Nat, B = 2 ^ b := ⟨_, rfl⟩
  rw [← hA] at s1 p1; rw [← hB] at s2 p2
  have HA := hidI hA; have HB := hidI hB; clear hA hB
  rw [← HA.out, ← HB.out] at HH ⊢
  have o1 := or_i64 x B (by omega) (by omega)
  have o2 := or_i64 y A (by omega) (by omega)
  have Hx := hidI hx; have Hy := hidI hy; clear hx hy h
  go_enter Try.func93, Try.ntmps93
  go_wp2_with fail
  go_region
  go_wp2_with fail
  go_region
  go_wp2_with fail
  go_end0
  refine ⟨rfl, HH.out, fun B hB W hW => ((hW.setCell hB _).drew.setCell hB _).drew, by simp [World.setCell]⟩

theorem impl_joinPoints_q (g a b x y : Nat) (p q : Int) (c d : List Int) (w : World) (h : Blk w g c) (hp : p = a) (hq : q = b) (hc : c.length = 4) (ha : a < 4) (hb : b < 4) (hab : a ≠ b) (hx : c[a]? = some (x : Int)) (hy : c[b]? = some (y : Int)) (hx2 : x < 16) (hy2 : y < 16) (hd : (c.set a ((x ||| 2 ^ b : Nat) : Int)).set b ((y ||| 2 ^ a : Nat) : Int) = d) :
    Calls Try.prog 93 #[.slice (some ⟨g, 0, none⟩) 4 4, .int .i64 p, .int .i64 q] w fun e w' => e = .returned (.tuple #[]) ∧ Blk w' g d ∧ (∀ B, B ≤ g → ∀ W, Below B W w → Below B W w') ∧ w.heap.size = w'.heap.size := by
  subst hp; subst hq; subst hd
  exact impl_joinPoints g a b x y c w h hc ha hb hab hx hy hx2 hy2

theorem made4 : madeCells #[Value.int .i64 0] 4 = ([0, 0, 0, 0].map (Value.int .i64)).toArray := by kernel_rfl

theorem infoIntA : (Try.prog.info? 3).map (fun i => (i.zero, i.size, i.bytes)) = some (some (.int .i64 0), 1, 8) := by kernel_rfl

set_option maxRecDepth 100000 in
set_option maxHeartbeats 2000000 in
theorem impl_GridOf22 (w : World) :
    Calls Try.prog 74 #[.int .i64 2, .int .i64 2] w fun e w' => ∃ g, e = .returned (.agg #[.slice (some ⟨g, 0, none⟩) 4 4]) ∧ Blk w' g [6, 9, 9, 6] ∧ Below w.heap.size w w' := by
  have hmk : ∀ w, (Instr.makeSlice 24 (.int .i64 4) (.int .i64 4)).run Try.prog w = .ok (.slice (some ⟨w.heap.size, 0, none⟩) 4 4) (w.alloc (.cells (madeCells #[.int .i64 0] 4) 3)) := fun w => run_make_row' 24 3 (.int .i64 0) 8 Try.underlying24 infoIntA rfl .i64 .i64 4 (by omega) (by omega) w
  go_enter Try.func74, Try.ntmps74
  go_wp2_with fail
  obtain ⟨wv, hwv⟩ : ∃ wv, wv = w.alloc (.cells #[Value.slice none 0 0] 62) := ⟨_, rfl⟩
  have hsz : wv.heap.size = w.heap.size + 1 := by rw [hwv]; simp
  have hbv : Below w.heap.size w wv := by rw [hwv]; exact (Below.refl _ _).alloc (Nat.le_refl _) _
  have hc : wv.cell? ⟨w.heap.size, 0, none⟩ = some (.slice none 0 0) := by rw [hwv, cell_new]; rfl
  have hf : wv.frozen? ⟨w.heap.size, 0, none⟩ = false := by rw [hwv]; unfold World.frozen?; rw [heap_alloc_new]; simp
  rw [← hwv]; clear hwv
  rw [← hsz]
  obtain ⟨g, hg⟩ : ∃ g, g = wv.heap.size := ⟨_, rfl⟩
  rw [← hg]
  have HL : Hid (Blk (wv.alloc (.cells (madeCells #[.int .i64 0] 4) 3)) g [0, 0, 0, 0]) := by rw [hg]; exact hidI ((heap_alloc_new wv _).trans (by rw [made4]))
  have HB : Hid (Below g wv (wv.alloc (.cells (madeCells #[.int .i64 0] 4) 3))) := (Below.refl _ _).alloc (by omega) _
  have HC := hidI hc; have HF := hidI hf; have HV := hidI hbv; have hwg : w.heap.size < g := by omega
  have HZ := hidI hsz; have HGG := hidI hg; clear hc hf hbv hsz hg
  refine wp_loop_rounds 3 ?_
  rw [rounds_succ]
  go_wp2_with fail
  refine wp_loop_rounds 3 ?_
  rw [rounds_succ]
  go_wp2_with fail
  go_fit (impl_joinPoints_q g 0 1 0 0 0 1 _ [2, 1, 0, 0] _ HL.out rfl rfl rfl (by decide) (by decide) (by decide) rfl rfl (by decide) (by decide) rfl); rintro e w1 ⟨rfl, hb, hB, hs⟩
  have HL : Hid (Blk w1 g [2, 1, 0, 0]) := hb
  have HB := hidI (hB g (Nat.le_refl _) _ HB.out); clear hb hB hs
  go_wp2_with fail
  go_fit (impl_joinPoints_q g 0 2 2 0 0 2 _ [6, 1, 1, 0] _ HL.out rfl rfl rfl (by decide) (by decide) (by decide) rfl rfl (by decide) (by decide) rfl); rintro e w2 ⟨rfl, hb, hB, hs⟩
  have HL : Hid (Blk w2 g [6, 1, 1, 0]) := hb
  have HB := hidI (hB g (Nat.le_refl _) _ HB.out); clear hb hB hs
  go_wp2_with fail
  rw [rounds_succ]
  go_wp2_with fail
  go_fit (impl_joinPoints_q g 1 3 1 0 1 3 _ [6, 9, 1, 2] _ HL.out rfl rfl rfl (by decide) (by decide) (by decide) rfl rfl (by decide) (by decide) rfl); rintro e w3 ⟨rfl, hb, hB, hs⟩
  have HL : Hid (Blk w3 g [6, 9, 1, 2]) := hb
  have HB := hidI (hB g (Nat.le_refl _) _ HB.out); clear hb hB hs
  go_wp2_with fail
  rw [rounds_succ]
  go_wp2_with fail
  rw [rounds_succ]
  go_wp2_with fail
  refine wp_loop_rounds 3 ?_
  rw [rounds_succ]
  go_wp2_with fail
  go_fit (impl_joinPoints_q g 2 3 1 2 2 3 _ [6, 9, 9, 6] _ HL.out rfl rfl rfl (by decide) (by decide) (by decide) rfl rfl (by decide) (by decide) rfl); rintro e w4 ⟨rfl, hb, hB, hs⟩
  have HL : Hid (Blk w4 g [6, 9, 9, 6]) := hb
  have HB := hidI (hB g (Nat.le_refl _) _ HB.out); clear hb hB hs
  go_wp2_with fail
  rw [rounds_succ]
  go_wp2_with fail
  rw [rounds_succ]
  go_wp2_with fail
  rw [rounds_succ]
  have hc := (HB.out.cell (p := ⟨w.heap.size, 0, none⟩) hwg).trans HC.out
  have hf := (HB.out.frozen (p := ⟨w.heap.size, 0, none⟩) hwg).trans HF.out
  go_wp2_with fail
  refine bodyPost_ret (v := .agg #[.slice (some ⟨g, 0, none⟩) 4 4]) (by simp [results, Try.results74, go_sem, hc]) rfl ?_
  have HB2 : Below w.heap.size w w4 := HV.out.trans (HB.out.mono (by omega))
  refine ⟨g, rfl, ?_, HB2.setCell (by exact Nat.le_refl _) _⟩
  have := Below.heap_setCell w4 ⟨w.heap.size, 0, none⟩ (.slice (some ⟨g, 0, none⟩) 4 4) g (by show g ≠ w.heap.size; omega)
  exact this.trans HL.out

theorem blk_Graph {w : World} {g : Nat} {c : List Int} (h : Blk w g c) (v : Value) (t : TypeId) : Blk (w.alloc (.cells #[v] t)) g c := h.grown ((Below.refl _ _).alloc (Nat.le_refl _) _)

theorem vals4 {k : Nat} (h : k < 4) : ∃ z : Int, ([6, 9, 9, 6] : List Int)[k]? = some z ∧ (k = 0 ∧ z = 6 ∨ k = 1 ∧ z = 9 ∨ k = 2 ∧ z = 9 ∨ k = 3 ∧ z = 6) := by
  obtain rfl | rfl | rfl | rfl : k = 0 ∨ k = 1 ∨ k = 2 ∨ k = 3 := by omega
  all_goals exact ⟨_, rfl, by simp⟩

set_option maxRecDepth 100000 in
set_option maxHeartbeats 2000000 in
theorem impl_GraphValid22 (g : Nat) (w : World) (h : Blk w g [6, 9, 9, 6]) :
    Calls Try.prog 91 #[.agg #[.slice (some ⟨g, 0, none⟩) 4 4]] w fun e w' => e = .returned (.bool true) ∧ Below w.heap.size w w' := by
  have a60 : bits .and .i64 6 1 = 0 := by decide
  have a61 : bits .and .i64 3 1 = 1 := by decide
  have a62 : bits .and .i64 1 1 = 1 := by decide
  have a63 : bits .and .i64 0 1 = 0 := by decide
  have a90 : bits .and .i64 9 1 = 1 := by decide
  have a91 : bits .and .i64 4 1 = 0 := by decide
  have a92 : bits .and .i64 2 1 = 0 := by decide
  have h1 := blk_Graph h (.slice (some ⟨g, 0, none⟩) 4 4) 62
  obtain ⟨Wb, hWb⟩ : ∃ Wb, Wb = w.alloc (.cells #[.slice (some ⟨g, 0, none⟩) 4 4] 62) := ⟨_, rfl⟩
  have hb : Below w.heap.size w Wb := by rw [hWb]; exact (Below.refl _ _).alloc (Nat.le_refl _) _
  have hsz : Wb.heap.size = w.heap.size + 1 := by rw [hWb]; simp
  have c0 : Wb.cell? ⟨w.heap.size, 0, none⟩ = some (.slice (some ⟨g, 0, none⟩) 4 4) := by rw [hWb, cell_new]; rfl
  rw [← hWb] at h1
  have q0 := (h1.cell (i := 0) rfl).1; have q1 := (h1.cell (i := 1) rfl).1; have q2 := (h1.cell (i := 2) rfl).1; have q3 := (h1.cell (i := 3) rfl).1
  have HBB := hidI hb; have HGL := hidI (Array.getElem?_eq_some_iff.1 h1).1; have HSZ := hidI (show w.heap.size < Wb.heap.size by omega); have HLE := hidI (show w.heap.size ≤ Wb.heap.size by omega)
  have HC0 := hidI c0; have HQ0 := hidI q0; have HQ1 := hidI q1; have HQ2 := hidI q2; have HQ3 := hidI q3
  clear h h1 hb hsz
  go_enter Try.func91, Try.ntmps91
  go_wp2_with fail
  rw [← hWb]; clear hWb
  go_loop [21] (fun i => ∃ k : Nat, k ≤ 4 ∧ i = .int .i64 k) (fun i => 4 - (intOf i).toNat)
  case atStart => exact ⟨0, by omega, rfl⟩
  case round =>
    obtain ⟨k, hk, rfl⟩ := hrel
    obtain rfl | rfl | rfl | rfl | rfl : k = 0 ∨ k = 1 ∨ k = 2 ∨ k = 3 ∨ k = 4 := by omega
    rotate_right
    · go_wp2_with fail
      go_loopw [45] (fun i wr => ∃ k : Nat, k ≤ 4 ∧ i = .int .i64 k ∧ Hid (Below Wb.heap.size Wb wr)) (fun i _ => 4 - (intOf i).toNat)
      case atStart => exact ⟨0, by omega, rfl, hidI (Below.refl _ _)⟩
      case round =>
        obtain ⟨k, hk, rfl, HB1⟩ := hrel
        clear q0 q1 q2 q3 c0
        have d0 := (HB1.out.cell (p := ⟨w.heap.size, 0, none⟩) HSZ.out).trans HC0.out
        have q0 := (HB1.out.cell (p := ⟨g, 0, none⟩) HGL.out).trans HQ0.out
        have q1 := (HB1.out.cell (p := ⟨g, 1, none⟩) HGL.out).trans HQ1.out
        have q2 := (HB1.out.cell (p := ⟨g, 2, none⟩) HGL.out).trans HQ2.out
        have q3 := (HB1.out.cell (p := ⟨g, 3, none⟩) HGL.out).trans HQ3.out
        obtain rfl | rfl | rfl | rfl | rfl : k = 0 ∨ k = 1 ∨ k = 2 ∨ k = 3 ∨ k = 4 := by omega
        rotate_right
        · go_wp2_with fail
          go_ret
          exact ⟨rfl, HBB.out.trans (HB1.out.mono HLE.out)⟩
        all_goals
          go_wp2_with fail
          go_loopw [51] (fun j ws => ∃ k : Nat, k ≤ 4 ∧ j = .int .i64 k ∧ Hid (Below Wb.heap.size Wb ws)) (fun j _ => 4 - (intOf j).toNat)
          case atStart => exact ⟨0, by omega, rfl, HB1⟩
          case round =>
            obtain ⟨j, hj, rfl, HB2⟩ := hrel
            clear q0 q1 q2 q3 d0
            have d0 := (HB2.out.cell (p := ⟨w.heap.size, 0, none⟩) HSZ.out).trans HC0.out
            have q0 := (HB2.out.cell (p := ⟨g, 0, none⟩) HGL.out).trans HQ0.out
            have q1 := (HB2.out.cell (p := ⟨g, 1, none⟩) HGL.out).trans HQ1.out
            have q2 := (HB2.out.cell (p := ⟨g, 2, none⟩) HGL.out).trans HQ2.out
            have q3 := (HB2.out.cell (p := ⟨g, 3, none⟩) HGL.out).trans HQ3.out
            obtain rfl | rfl | rfl | rfl | rfl : j = 0 ∨ j = 1 ∨ j = 2 ∨ j = 3 ∨ j = 4 := by omega
            rotate_right
            · go_wp2_with fail
              go_roundw
              case rel => first | exact ⟨1, by omega, rfl, HB2⟩ | exact ⟨2, by omega, rfl, HB2⟩ | exact ⟨3, by omega, rfl, HB2⟩ | exact ⟨4, by omega, rfl, HB2⟩
              case measure => simp [intOf]
            all_goals
              go_wp2_with fail
              go_quiet (fail)
              go_wp2_with fail
              go_roundw
              case rel => first | exact ⟨1, by omega, rfl, hidI (bthen HB2.out (bdraw _ _))⟩ | exact ⟨2, by omega, rfl, hidI (bthen HB2.out (bdraw _ _))⟩ | exact ⟨3, by omega, rfl, hidI (bthen HB2.out (bdraw _ _))⟩ | exact ⟨4, by omega, rfl, hidI (bthen HB2.out (bdraw _ _))⟩ 
              case measure => simp [intOf]
    all_goals
      go_wp2_with fail
      go_round
      case rel => first | exact ⟨1, by omega, rfl⟩ | exact ⟨2, by omega, rfl⟩ | exact ⟨3, by omega, rfl⟩ | exact ⟨4, by omega, rfl⟩ 
      case measure => simp [intOf]

set_option maxHeartbeats 400000 in
theorem impl_countBits_two (n : Int) (w : World) (hn : n = 6 ∨ n = 9) :
    Calls Try.prog 92 #[.int .i64 n] w fun e w' => e = .returned (.int .i64 2) ∧ w = w' := by
  have a1 : bits .and .i64 6 5 = 4 := by decide
  have a2 : bits .and .i64 4 3 = 0 := by decide
  have a3 : bits .and .i64 9 8 = 8 := by decide
  have a4 : bits .and .i64 8 7 = 0 := by decide
  rcases hn with rfl | rfl
  all_goals
    go_enter Try.func92, Try.ntmps92
    go_wp2_with fail
    refine wp_loop_rounds 3 ?_
    rw [rounds_succ]
    go_wp2_with fail
    rw [rounds_succ]
    go_wp2_with fail
    rw [rounds_succ]
    go_wp2_with fail
    go_ret
    exact ⟨rfl, rfl⟩

set_option maxRecDepth 100000 in
set_option maxHeartbeats 2000000 in
theorem impl_LinesMany22 (g : Nat) (w : World) (h : Blk w g [6, 9, 9, 6]) :
    Calls Try.prog 73 #[.agg #[.slice (some ⟨g, 0, none⟩) 4 4]] w fun e w' => e = .returned (.int .i64 4) ∧ Below w.heap.size w w' := by
  have h1 := blk_Graph h (.slice (some ⟨g, 0, none⟩) 4 4) 62
  obtain ⟨Wb, hWb⟩ : ∃ Wb, Wb = w.alloc (.cells #[.slice (some ⟨g, 0, none⟩) 4 4] 62) := ⟨_, rfl⟩
  have hb : Below w.heap.size w Wb := by rw [hWb]; exact (Below.refl _ _).alloc (Nat.le_refl _) _
  have hsz : Wb.heap.size = w.heap.size + 1 := by rw [hWb]; simp
  have c0 : Wb.cell? ⟨w.heap.size, 0, none⟩ = some (.slice (some ⟨g, 0, none⟩) 4 4) := by rw [hWb, cell_new]; rfl
  rw [← hWb] at h1
  have HBB := hidI hb; have HSZ := hidI (show w.heap.size < Wb.heap.size by omega); have HLE := hidI (show w.heap.size ≤ Wb.heap.size by omega)
  have HC0 := hidI c0; have HL := hidI h1
  clear h hb hsz h1
  go_enter Try.func73, Try.ntmps73
  go_wp2_with fail
  rw [← hWb]; clear hWb
  go_fit (impl_GraphValid22 g _ HL.out); rintro e w1 ⟨rfl, b1⟩
  have HL1 := hidI (HL.out.grown b1)
  have d0 := (b1.cell (p := ⟨w.heap.size, 0, none⟩) HSZ.out).trans HC0.out
  have q0 := (HL1.out.cell (i := 0) rfl).1; have q1 := (HL1.out.cell (i := 1) rfl).1; have q2 := (HL1.out.cell (i := 2) rfl).1; have q3 := (HL1.out.cell (i := 3) rfl).1
  have B1 := hidI b1; clear b1 c0
  go_wp2_with fail
  go_loop [3, 12] (fun s i => ∃ k : Nat, k ≤ 4 ∧ i = .int .i64 k ∧ s = .int .i64 ((2 * k : Nat) : Int)) (fun _ i => 4 - (intOf i).toNat)
  case atStart => exact ⟨0, by omega, rfl, rfl⟩
  case round =>
    obtain ⟨k, hk, rfl, rfl⟩ := hrel
    obtain rfl | rfl | rfl | rfl | rfl : k = 0 ∨ k = 1 ∨ k = 2 ∨ k = 3 ∨ k = 4 := by omega
    rotate_right
    · go_wp2_with fail
      go_ret
      exact ⟨rfl, HBB.out.trans (B1.out.mono HLE.out)⟩
    all_goals
      go_wp2_with (go_at_call 92; refine (impl_countBits_two _ _ (by decide)).mono ?_; rintro e w' ⟨rfl, rfl⟩)
      go_round
      case rel => first | exact ⟨1, by omega, rfl, rfl⟩ | exact ⟨2, by omega, rfl, rfl⟩ | exact ⟨3, by omega, rfl, rfl⟩ | exact ⟨4, by omega, rfl, rfl⟩
      case measure => simp [intOf]

theorem laws_alive (w : World) :
    Calls Try.prog 21 #[] w fun e w' => e = .returned (.bool true) ∧ Below w.heap.size w w' := by
  go_enter Try.func21, Try.ntmps21
  go_wp2_with fail
  go_fit (impl_GridOf22 w); rintro e w1 ⟨g, rfl, h1, b1⟩
  go_wp2_with fail
  go_fit (impl_LinesMany22 g w1 h1); rintro e w2 ⟨rfl, b2⟩
  go_wp2_with fail
  go_ret
  exact ⟨rfl, bthen b1 b2⟩
end Go.Proofs.Ytmmggbcmailbiaa
